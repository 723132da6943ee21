/- What the law AuditBooks leans on, part 5: the symbolic executor, proved sound, contracts of functions, plain lemmas. By an AI agent. -/
import Derived.Test.YtbjmmnegkpeboaaGreatPk4
import Derived.Shelf.Slices.CompactS
set_option linter.unusedSimpArgs false
set_option linter.unusedVariables false
set_option maxRecDepth 100000
namespace Go.Proofs.YtbjmmnegkpeboaaGreat
open Go Go.Rx Go.RowKit Go.Proofs Go.Sort
namespace paths
def laysCp_ren:Go.Shelf.Ren:=⟨fun | 194=>26 | n=>n,fun | 31=>33 | 9=>9 | 3=>3 | 4=>4 | 0=>0 | n=>n,fun | n=>n⟩
theorem laysCp:Go.Proofs.Lays.n194 Tryz.prog laysCp_ren where
 mixed:=by kernel_rfl
 f194:=Tryz.func26.trans (congrArg some (by kernel_rfl))
 t0:=Tryz.underlying0
 a0:=Tryz.isAgg0
 z0:=Tryz.sizeOf0
 v0:=Tryz.zeroValue0
 t3:=Tryz.underlying3
 a3:=Tryz.isAgg3
 z3:=Tryz.sizeOf3
 v3:=Tryz.zeroValue3
 t4:=Tryz.underlying4
 a4:=Tryz.isAgg4
 z4:=Tryz.sizeOf4
 v4:=Tryz.zeroValue4
 t9:=Tryz.underlying9
 a9:=Tryz.isAgg9
 z9:=Tryz.sizeOf9
 v9:=Tryz.zeroValue9
 t31:=Tryz.underlying33
 a31:=Tryz.isAgg33
 z31:=Tryz.sizeOf33
 v31:=Tryz.zeroValue33

def strOf:SV→ByteArray | .v (.string s)=>s | _=>⟨#[]⟩
def strsOf (l:List SV):List ByteArray:=l.map strOf
theorem strsOf_strs (L:List ByteArray):strsOf (strs L)=L:=by
 unfold strsOf strs
 rw [List.map_map,List.map_map]
 exact (List.map_congr_left fun x _=>rfl).trans (List.map_id L)
theorem strs_len (L:List ByteArray):(strs L).length=L.length:=by unfold strs;simp
def SmallN (L:List ByteArray):Prop:=L≠[]∧L.length≤100000∧∀ s∈L,s.size≤1000000000
def sortSum:Sum:=fun args s=>match args with
 | [.v u,.v v]=>some (.v (.tuple #[]),s.owe (u=.slice none 0 0∧v=.func (.func 21) #[] #[]))
 | [.sl j 0 n none,.v v]=>match s.look j with
  | some (.row ys e z (some C),true)=>some (.v (.tuple #[]),(s.owe (ys=strs (strsOf ys)∧n=(strsOf ys).length∧SmallN (strsOf ys)∧e=9∧z=(0,0)∧C=1∧v=.func (.func 21) #[] #[])).put j (.row (strs (sortN (strsOf ys))) e z (some C)))
  | _=>none
 | _=>none
def nameC (L:List ByteArray):List ByteArray:=(Lib.compact (L.map fun s:ByteArray=>s.data.toList)).map fun x=>⟨x.toArray⟩
def compSum:Sum:=fun args s=>match args with
 | [.v u]=>some (.v (.slice none 0 0),s.owe (u=.slice none 0 0))
 | [.sl j 0 n none]=>match s.look j with
  | some (.row ys e z (some C),true)=>some (.sl j 0 (nameC (strsOf ys)).length none,(s.owe (ys=strs (strsOf ys)∧n=(strsOf ys).length∧SmallN (strsOf ys)∧e=9∧z=(0,0)∧C=1)).put j (.row (strs (nameC (strsOf ys)++List.replicate (n - (nameC (strsOf ys)).length) (⟨#[]⟩:ByteArray))) e z (some C)))
  | _=>none
 | _=>none
theorem row_told {ν:Val} {M:Own} {w0 w:World} {s:SH} (hr:HR ν M w0 s w) {j n:Nat} {L:List ByteArray} {m:Bool} {y:Value} (hj:s.look j=some (.row (strs L) 9 (0,0) (some 1),m)) (hv:VR ν (.sl j 0 n none) y):
  ∃ b rest,ν j=some b∧n≤b.2∧y=.slice (some ⟨b.1,0,none⟩) n b.2∧w.heap[b.1]?=some (.cells (L.map Value.string++rest).toArray 9 (0,0))∧(L.map Value.string++rest).length=b.2*1:=by
 obtain ⟨b,hb,hle,rfl⟩:=VR.sl_iff.1 hv
 obtain ⟨_,_,b',o,hb',ho,hor,_⟩:=hr.look hj
 rw [hb] at hb';cases hb'
 obtain ⟨zs,rest,rfl,hz,hx⟩:=hor
 have hzs:zs=L.map Value.string:=plain_sol hz (VRL.lits ν _)
 subst hzs
 obtain ⟨_,b2,hb2,hsz⟩:=hx
 rw [hb] at hb2;cases hb2
 exact ⟨b,rest,hb,hle,rfl,ho,hsz⟩
theorem sub_small {L:List ByteArray} (h:∀ s∈L,s.size≤1000000000):∃ K:List NmS,K.map (·.1)=L:=
 ⟨L.attach.map fun s=>⟨s.1,h s.1 s.2⟩,by rw [List.map_map];exact List.attach_map_subtype_val L⟩
theorem mx_ne {w:World} {b:Nat} {L:List ByteArray} {rest:List Value} (hm:MX w) (hL:L≠[]) (hh:w.heap[b]?=some (.cells (L.map Value.string++rest).toArray 9 (0,0))):b≠0:=by
 rintro rfl
 obtain ⟨z,hz⟩:=hm
 rw [cell_at hh] at hz
 cases L with
 | nil=>exact hL rfl
 | cons x L=>simp at hz
theorem encs (K:List ByteArray):K.map Value.string=(K.map fun s=>s.data.toList).map encStr:=by
 rw [List.map_map]
 exact List.map_congr_left fun x _=>by simp [encStr]
theorem sort_sum:SumOKT Tryz.prog MX (20,sortSum):=by
 refine ⟨⟨_,Tryz.func20,by kernel_rfl,by kernel_rfl⟩,fun args x s s' hx ob=>?_⟩
 dsimp only at hx
 unfold sortSum at hx
 split at hx
 ·cases hx
  obtain ⟨ob3,rfl,rfl⟩:=ob
  refine ⟨ob3,fun ν M w0 w a hr hX ha=>?_⟩
  obtain ⟨y1,as1,rfl,q1,ha2⟩:=ha.cons_inv
  obtain ⟨y2,as2,rfl,q2,ha3⟩:=ha2.cons_inv
  obtain rfl:=ha3.nil_inv
  obtain rfl:=VR.v_iff.1 q1
  obtain rfl:=VR.v_iff.1 q2
  exact (AnyF.slices_SortFunc_none { laysSF with } none 0 _ w).mono fun e w' ⟨he,hw⟩=>⟨_,he,.old (by rw [hw];exact Below.refl _ _) (.same (SH.owe_same _ _) (VR.v_iff.2 rfl))⟩
 ·rename_i j n v
  split at hx
  ·rename_i ys e z C hl
   cases hx
   obtain ⟨ob3,hys,hn,hs,rfl,rfl,rfl,rfl⟩:=ob
   refine ⟨ob3,fun ν M w0 w a hr hX ha=>?_⟩
   generalize hL:strsOf ys=L at *
   subst hys hn
   obtain ⟨y1,as1,rfl,q1,ha2⟩:=ha.cons_inv
   obtain ⟨y2,as2,rfl,q2,ha3⟩:=ha2.cons_inv
   obtain rfl:=ha3.nil_inv
   obtain rfl:=VR.v_iff.1 q2
   obtain ⟨b,rest,hb,hle,rfl,hh,hsz⟩:=row_told hr hl q1
   have hbm:=mx_ne hX hs.1 hh
   obtain ⟨K,rfl⟩:=sub_small hs.2.2
   have hlen:=hs.2.1
   have hl2:K.length=(K.map (·.1)).length:=by simp
   have cS:=sort_calls (cap:=b.2) hX hbm (L:=K) (rest:=rest) (by rw [hh,List.map_map];rfl) (by omega)
   rw [hl2] at cS
   refine cS.mono fun e w' ⟨he,hbut,hcells⟩=>⟨_,he,.turn (s.owe _) j _ _ b _ (SH.owe_same _ _) hl rfl hb hcells ⟨(sortN (K.map (·.1))).map Value.string,rest,rfl,VRL.lits _ _,?_⟩ hbut (VR.v_iff.2 rfl)⟩
   refine ⟨by rw [strs_len,List.length_append,List.length_map];omega,b,hb,?_⟩
   rw [← hsz,List.length_append,List.length_map,(sortN_perm _).length_eq,List.length_append,List.length_map,List.length_map,List.length_map]
  ·cases hx
 ·cases hx
theorem nameC_enc (L:List ByteArray):(Lib.compact (L.map fun s:ByteArray=>s.data.toList)).map encStr=(nameC L).map Value.string:=by
 unfold nameC
 rw [List.map_map];rfl
theorem nameC_len (L:List ByteArray):(nameC L).length=(Lib.compact (L.map fun s:ByteArray=>s.data.toList)).length:=by
 unfold nameC;simp
theorem comp_sum:SumOKT Tryz.prog MX (26,compSum):=by
 refine ⟨⟨_,Tryz.func26,by kernel_rfl,by kernel_rfl⟩,fun args x s s' hx ob=>?_⟩
 dsimp only at hx
 unfold compSum at hx
 split at hx
 ·cases hx
  obtain ⟨ob3,rfl⟩:=ob
  refine ⟨ob3,fun ν M w0 w a hr hX ha=>?_⟩
  obtain ⟨y1,as1,rfl,q1,ha2⟩:=ha.cons_inv
  obtain rfl:=ha2.nil_inv
  obtain rfl:=VR.v_iff.1 q1
  exact (Any.slices_Compact_string_empty laysCp none 0 w).mono fun e w' ⟨he,hw⟩=>⟨_,he,.old (by rw [hw];exact Below.refl _ _) (.same (SH.owe_same _ _) (VR.v_iff.2 rfl))⟩
 ·rename_i j n
  split at hx
  ·rename_i ys e z C hl
   cases hx
   obtain ⟨ob3,hys,hn,hs,rfl,rfl,rfl⟩:=ob
   refine ⟨ob3,fun ν M w0 w a hr hX ha=>?_⟩
   generalize hL:strsOf ys=L at *
   subst hys hn
   obtain ⟨y1,as1,rfl,q1,ha2⟩:=ha.cons_inv
   obtain rfl:=ha2.nil_inv
   obtain ⟨b,rest,hb,hle,rfl,hh,hsz⟩:=row_told hr hl q1
   have hlen:=hs.2.1
   have hh2:w.heap[b.1]?=some (.cells (((L.map fun s:ByteArray=>s.data.toList).map encStr)++rest).toArray 9 (0,0)):=by rw [hh,encs]
   have hcl:(Lib.compact (L.map fun s:ByteArray=>s.data.toList)).length≤L.length:=by
    unfold Lib.compact Lib.compactUpTo
    rw [List.length_map,List.length_map]
    exact Nat.le_trans (List.length_filter_le _ _) (by simp)
   have cS:=Any.slices_Compact_string laysCp b.1 0 b.2 (L.map fun s:ByteArray=>s.data.toList) w (holds_cells encStr hh2) (by simp;omega) (by simpa using hle)
   rw [show (L.map fun s:ByteArray=>s.data.toList).length=L.length by simp] at cS
   refine cS.mono fun e w' ⟨he,q,hw⟩=>?_
   have hput:=putRow_block encStr (w:=Sort.ahead w q) (d0:=L.map fun s:ByteArray=>s.data.toList) (d:=Lib.compact (L.map fun s:ByteArray=>s.data.toList)++List.replicate (L.length - (Lib.compact (L.map fun s:ByteArray=>s.data.toList)).length) []) (rest:=rest) (e:=9) (fz:=(0,0)) (b:=b.1) hh2 (by simp;omega)
   rw [← hw] at hput
   have hbut:But w w' b.1:=by
    have:=sortWorld_but encStr w b.1 0 q (Lib.compact (L.map fun s:ByteArray=>s.data.toList)++List.replicate (L.length - (Lib.compact (L.map fun s:ByteArray=>s.data.toList)).length) []).toArray #[]
    rw [grow_empty,← hw] at this;exact this
   refine ⟨_,he,.turn (s.owe _) j _ _ b _ (SH.owe_same _ _) hl rfl hb hput ⟨(nameC L++List.replicate (L.length - (nameC L).length) (⟨#[]⟩:ByteArray)).map Value.string,rest,?_,VRL.lits _ _,by simp only [strs_len,List.length_append,List.length_map];omega,b,hb,?_⟩ hbut (VR.sl_iff.2 ⟨b,hb,?_,?_⟩)⟩
   ·rw [List.map_append,List.map_append,nameC_enc,nameC_len,List.map_replicate,List.map_replicate];rfl
   ·rw [← hsz]
    simp only [List.length_append,List.length_map,List.length_replicate,nameC_len];omega
   ·show (nameC L).length≤b.2
    rw [nameC_len];omega
   ·rw [nameC_len];rfl
  ·cases hx
 ·cases hx
end paths
end Go.Proofs.YtbjmmnegkpeboaaGreat
set_option linter.unusedSimpArgs false
set_option linter.unusedVariables false
set_option maxRecDepth 100000
namespace Go.Proofs.YtbjmmnegkpeboaaGreat
open Go Go.Rx Go.RowKit Go.Proofs
namespace paths
def lAb:List (FuncId × Sum):=[(20,sortSum),(26,compSum)]
noncomputable def EAb:Env:={ EP [] [] with sums:=fun f=>lAb.lookup f }
noncomputable def entAb:SM:=(enterS EAb 9 [.ptr 0 0,.ptr 1 0] (memOf 6 2 0 [lkE [],lkE []])).getD noSM
def mkE (n:Nat):Nat→SV:=fun i=>.sl i 0 n none
def soE (l:List EntT):SO:=.row (cE l) 46 (0,0) (some 4)
def oB:List (Nat × Ans):=ff [1000] true
noncomputable def abN (l:List EntT) (n:Nat):SM:=newT EAb 19 100 entAb oB (mkE n) (soE l)
noncomputable def abZ:SM:=backT EAb 19 100 entAb oB (.v (.slice none 0 0))
noncomputable def abNN (l m:List EntT) (n k:Nat):SM:=newT EAb 19 100 (abN l n) oB (mkE k) (soE m)
noncomputable def abNZ (l:List EntT) (n:Nat):SM:=backT EAb 19 100 (abN l n) oB (.v (.slice none 0 0))
noncomputable def abZN (m:List EntT) (k:Nat):SM:=newT EAb 19 100 abZ oB (mkE k) (soE m)
noncomputable def abZZ:SM:=backT EAb 19 100 abZ oB (.v (.slice none 0 0))
noncomputable def todoAb:List SI:=todoL EAb 2 100 (abNN [] [] 1 1) [(0,.app [] [])]
def cloB:SV:=.func (.func 23) [] [.ptr 2 0,.ptr 3 0]
def boxB (j:Nat):Option (SO × Bool):=some (cellB j,true)
noncomputable def hdAb (n:Nat) (x:SV) (i:Int):SF:={ fn:=9,tm:=tmOf 30 6 ([.junk,.junk,.ptr 2 0,.ptr 3 0,.v (.slice none 0 0),x,.junk,.junk,.junk,.junk,.junk,.junk,.sl 4 0 n none,.v (.int .i64 n),.v (.int .i64 i)]++List.replicate 15 .junk),todo:=todoAb,defers:=[],ret:=false,kind:=.normal,ro:=none }
def objA0 (l:List SV):List (Option (SO × Bool)):=[lkE [],lkE [],boxB 0,boxB 1,rowsE l]
def objA1 (l m:List SV):List (Option (SO × Bool)):=[lkE [],lkE [],boxB 0,boxB 1,rowsE l,strR m]
theorem ab0 (u:Unit):callO EAb 19 100 entAb oB=[
 ]:=by kernel_rfl
theorem ab1 (l:List EntT) (n:Nat):newO EAb 19 100 entAb oB (mkE n) (soE l)=[
 (0:Nat)=(0:Nat)]:=by kernel_rfl
theorem ab2 (u:Unit):backO EAb 19 100 entAb oB (.v (.slice none 0 0))=[
 (0:Nat)=(0:Nat)]:=by kernel_rfl
theorem ab3 (l:List EntT) (n:Nat):callO EAb 19 100 (abN l n) oB=[
 ]:=by kernel_rfl
theorem ab4 (u:Unit):callO EAb 19 100 abZ oB=[
 ]:=by kernel_rfl
theorem ab5 (l m:List EntT) (n k:Nat):newO EAb 19 100 (abN l n) oB (mkE k) (soE m)=[
 ]:=by kernel_rfl
theorem ab6 (l:List EntT) (n:Nat):backO EAb 19 100 (abN l n) oB (.v (.slice none 0 0))=[
 ]:=by kernel_rfl
theorem ab7 (m:List EntT) (k:Nat):newO EAb 19 100 abZ oB (mkE k) (soE m)=[
 ]:=by kernel_rfl
theorem ab8 (u:Unit):backO EAb 19 100 abZ oB (.v (.slice none 0 0))=[
 ]:=by kernel_rfl
theorem ab9 (l m : List EntT) (n k : Nat) (w v l' : List SV) : reach EAb 2 100 (abNN l m n k) [(0, .app v w)] [(0, 0), (1, 1), (2, 2), (3, 3), (4, 6)] [4] (hdAb (n + k) nilE 0) 6 (objA0 l') = [
  (0 : Nat) = (0 : Nat),
  (0 : Nat) = (0 : Nat),
  Value.slice none (0 : Nat) (0 : Nat) = Value.slice none (0 : Nat) (0 : Nat),
  Value.slice none (0 : Nat) (0 : Nat) = Value.slice none (0 : Nat) (0 : Nat),
  (0 : Nat) = (0 : Nat) ∧ n + k = n + k ∧ (none : Option Nat) = none,
  Value.int IntKind.i64 (↑(n + k) : Int) = Value.int IntKind.i64 (↑(n + k) : Int),
  Value.int IntKind.i64 (0 : Int) = Value.int IntKind.i64 (0 : Int),
  (0 : Nat) = (0 : Nat),
  (0 : Nat) = (0 : Nat),
  v ++ w = l',
  l'.all closedSV = true,
  ((List.take (k * (4 : Nat)) (List.drop (0 : Nat) (List.flatMap eC m)) = w ∧ w.length = k * (4 : Nat)) ∧
   k ≠ (0 : Nat) ∧ ((2 : Nat) * (n + k) + (1024 : Nat)) * (56 : Nat) ≤ (140737488355328 : Nat)) ∧
   List.take (n * (4 : Nat)) (List.flatMap eC l) = v ∧ v.length = n * (4 : Nat) ∧ w.all SV.flat = true] := by kernel_rfl
theorem abA (l:List EntT) (n:Nat) (l':List SV):reach EAb 2 100 (abNZ l n) oB [(0,0),(1,1),(2,2),(3,3),(4,4)] [4] (hdAb n nilE 0) 6 (objA0 l')=[
 (0:Nat)=(0:Nat),
 (0:Nat)=(0:Nat),
 Value.slice none (0:Nat) (0:Nat)=Value.slice none (0:Nat) (0:Nat),
 Value.slice none (0:Nat) (0:Nat)=Value.slice none (0:Nat) (0:Nat),
 (0:Nat)=(0:Nat)∧n=n∧(none:Option Nat)=none,
 Value.int IntKind.i64 (↑n:Int)=Value.int IntKind.i64 (↑n:Int),
 Value.int IntKind.i64 (0:Int)=Value.int IntKind.i64 (0:Int),
 (0:Nat)=(0:Nat),
 (0:Nat)=(0:Nat),
 List.flatMap eC l=l',
 l'.all closedSV=true]:=by kernel_rfl
theorem abB (m : List EntT) (k : Nat) (v w l' : List SV) : reach EAb 2 100 (abZN m k) [(0, .app v w)] [(0, 0), (1, 1), (2, 2), (3, 3), (4, 5)] [4] (hdAb k nilE 0) 6 (objA0 l') = [
  (0 : Nat) = (0 : Nat),
  (0 : Nat) = (0 : Nat),
  Value.slice none (0 : Nat) (0 : Nat) = Value.slice none (0 : Nat) (0 : Nat),
  Value.slice none (0 : Nat) (0 : Nat) = Value.slice none (0 : Nat) (0 : Nat),
  (0 : Nat) = (0 : Nat) ∧ k = k ∧ (none : Option Nat) = none,
  Value.int IntKind.i64 (↑k : Int) = Value.int IntKind.i64 (↑k : Int),
  Value.int IntKind.i64 (0 : Int) = Value.int IntKind.i64 (0 : Int),
  (0 : Nat) = (0 : Nat),
  (0 : Nat) = (0 : Nat),
  [] ++ w = l',
  l'.all closedSV = true,
  ((List.take (k * (4 : Nat)) (List.drop (0 : Nat) (List.flatMap eC m)) = w ∧ w.length = k * (4 : Nat)) ∧
   k ≠ (0 : Nat) ∧ ((2 : Nat) * k + (1024 : Nat)) * (56 : Nat) ≤ (140737488355328 : Nat)) ∧
   v = []] := by kernel_rfl
theorem abC (u : Unit) : callO EAb 22 100 abZZ oB = [
  Value.slice none (0 : Nat) (0 : Nat) = Value.slice none (0 : Nat) (0 : Nat),
  Value.slice none (0 : Nat) (0 : Nat) = Value.slice none (0 : Nat) (0 : Nat) ∧
   Value.func (Fn.func (21 : Nat)) { toList := [] : Array Value } { toList := [] : Array Value } =
   Value.func (Fn.func (21 : Nat)) { toList := [] : Array Value } { toList := [] : Array Value }] := by kernel_rfl
theorem abD (y : Value) : backO EAb 22 100 abZZ oB (.v y) = [
  Value.slice none (0 : Nat) (0 : Nat) = Value.slice none (0 : Nat) (0 : Nat),
  Value.slice none (0 : Nat) (0 : Nat) = Value.slice none (0 : Nat) (0 : Nat) ∧
   Value.func (Fn.func (21 : Nat)) { toList := [] : Array Value } { toList := [] : Array Value } =
   Value.func (Fn.func (21 : Nat)) { toList := [] : Array Value } { toList := [] : Array Value }] := by kernel_rfl
theorem abE (y v:Value):endsV EAb 9 100 (backT EAb 22 100 abZZ oB (.v y)) oB v=[
 y=v]:=by kernel_rfl
theorem ga0 (l m : List SV) (n : Nat) (i i' : Int) (e : EntT) : reach EAb 2 100 (SM.at (hdAb n nilE i) 6 (objA0 l)) (ff [0] true ++ [(2, .cells (eC e))] ++ ff [3] false) [(0, 0), (1, 1), (2, 2), (3, 3), (4, 4), (5, 7)] [4, 5] (hdAb n (.sl 5 0 1 none) i') 6 (objA1 l m) = [
  (0 : Nat) = (0 : Nat),
  (0 : Nat) = (0 : Nat),
  Value.slice none (0 : Nat) (0 : Nat) = Value.slice none (0 : Nat) (0 : Nat),
  (0 : Nat) = (0 : Nat) ∧ (1 : Nat) = (1 : Nat) ∧ (none : Option Nat) = none,
  (0 : Nat) = (0 : Nat) ∧ n = n ∧ (none : Option Nat) = none,
  Value.int IntKind.i64 (↑n : Int) = Value.int IntKind.i64 (↑n : Int),
  Value.int IntKind.i64 (IntKind.i64.wrap (i + (1 : Int))) = Value.int IntKind.i64 i',
  (0 : Nat) = (0 : Nat),
  (0 : Nat) = (0 : Nat),
  l = l,
  l.all closedSV = true,
  [] ++
   List.take (1 : Nat)
   (List.drop (0 : Nat)
   (splice
   (List.replicate (1 : Nat)
   (List.map SV.v
   { toList := [Value.string { data := { toList := [] : Array UInt8 } : ByteArray }] :
   Array Value }.toList)).flatten
   (0 : Nat) [SV.v (Value.string e.1)])) =
   m,
  m.all closedSV = true,
  false = false,
  List.take (4 : Nat) (List.drop ((0 : Nat) + i.toNat * (4 : Nat)) l) = eC e ∧ (eC e).length = (4 : Nat),
  inRange i n = true,
  decide (i < (↑n : Int)) = true] := by kernel_rfl
theorem ga1 (l m w l' : List SV) (n k : Nat) (i i' : Int) (e : EntT) : reach EAb 2 100 (SM.at (hdAb n (.sl 5 0 k none) i) 6 (objA1 l m)) (ff [0] true ++ [(2, .cells (eC e)), (3, .app m w)]) [(0, 0), (1, 1), (2, 2), (3, 3), (4, 4), (5, 8)] [4, 5] (hdAb n (.sl 5 0 (k + 1) none) i') 6 (objA1 l l') = [
  (0 : Nat) = (0 : Nat),
  (0 : Nat) = (0 : Nat),
  Value.slice none (0 : Nat) (0 : Nat) = Value.slice none (0 : Nat) (0 : Nat),
  (0 : Nat) = (0 : Nat) ∧ k + (1 : Nat) = k + (1 : Nat) ∧ (none : Option Nat) = none,
  (0 : Nat) = (0 : Nat) ∧ n = n ∧ (none : Option Nat) = none,
  Value.int IntKind.i64 (↑n : Int) = Value.int IntKind.i64 (↑n : Int),
  Value.int IntKind.i64 (IntKind.i64.wrap (i + (1 : Int))) = Value.int IntKind.i64 i',
  (0 : Nat) = (0 : Nat),
  (0 : Nat) = (0 : Nat),
  l = l,
  l.all closedSV = true,
  m ++ w = l',
  l'.all closedSV = true,
  ((List.take (1 : Nat)
   (List.drop (0 : Nat)
   (splice
   (List.replicate (1 : Nat)
   (List.map SV.v
   { toList := [Value.string { data := { toList := [] : Array UInt8 } : ByteArray }] :
   Array Value }.toList)).flatten
   (0 : Nat) [SV.v (Value.string e.1)])) =
   w ∧
   w.length = (1 : Nat) * (1 : Nat)) ∧
   (1 : Nat) ≠ (0 : Nat) ∧ ((2 : Nat) * (k + (1 : Nat)) + (1024 : Nat)) * (16 : Nat) ≤ (140737488355328 : Nat)) ∧
   List.take (k * (1 : Nat)) m = m ∧ m.length = k * (1 : Nat) ∧ w.all SV.flat = true,
  List.take (4 : Nat) (List.drop ((0 : Nat) + i.toNat * (4 : Nat)) l) = eC e ∧ (eC e).length = (4 : Nat),
  inRange i n = true,
  decide (i < (↑n : Int)) = true] := by kernel_rfl
theorem gx0 (l m : List SV) (n k : Nat) (i : Int) : callO EAb 22 100 (SM.at (hdAb n (.sl 5 0 k none) i) 6 (objA1 l m)) (ff [0] false) = [
  strs (sortN (strsOf m)) = strs (strsOf (strs (sortN (strsOf m)))) ∧
   k = (strsOf (strs (sortN (strsOf m)))).length ∧
   SmallN (strsOf (strs (sortN (strsOf m)))) ∧
   (9 : Nat) = (9 : Nat) ∧ ((0 : Nat), (0 : Nat)) = ((0 : Nat), (0 : Nat)) ∧ (1 : Nat) = (1 : Nat),
  m = strs (strsOf m) ∧
   k = (strsOf m).length ∧
   SmallN (strsOf m) ∧
   (9 : Nat) = (9 : Nat) ∧
   ((0 : Nat), (0 : Nat)) = ((0 : Nat), (0 : Nat)) ∧
   (1 : Nat) = (1 : Nat) ∧
   Value.func (Fn.func (21 : Nat)) { toList := [] : Array Value } { toList := [] : Array Value } =
   Value.func (Fn.func (21 : Nat)) { toList := [] : Array Value } { toList := [] : Array Value },
  decide (i < (↑n : Int)) = false] := by kernel_rfl
theorem gx1 (l m : List SV) (n k : Nat) (i : Int) (y : Value) : backO EAb 22 100 (SM.at (hdAb n (.sl 5 0 k none) i) 6 (objA1 l m)) (ff [0] false) (.v y) = [
  strs (sortN (strsOf m)) = strs (strsOf (strs (sortN (strsOf m)))) ∧
   k = (strsOf (strs (sortN (strsOf m)))).length ∧
   SmallN (strsOf (strs (sortN (strsOf m)))) ∧
   (9 : Nat) = (9 : Nat) ∧ ((0 : Nat), (0 : Nat)) = ((0 : Nat), (0 : Nat)) ∧ (1 : Nat) = (1 : Nat),
  m = strs (strsOf m) ∧
   k = (strsOf m).length ∧
   SmallN (strsOf m) ∧
   (9 : Nat) = (9 : Nat) ∧
   ((0 : Nat), (0 : Nat)) = ((0 : Nat), (0 : Nat)) ∧
   (1 : Nat) = (1 : Nat) ∧
   Value.func (Fn.func (21 : Nat)) { toList := [] : Array Value } { toList := [] : Array Value } =
   Value.func (Fn.func (21 : Nat)) { toList := [] : Array Value } { toList := [] : Array Value },
  decide (i < (↑n : Int)) = false] := by kernel_rfl
theorem gx2 (l m:List SV) (n k:Nat) (i:Int) (y v:Value):endsV EAb 9 100 (backT EAb 22 100 (SM.at (hdAb n (.sl 5 0 k none) i) 6 (objA1 l m)) (ff [0] false) (.v y)) oB v=[
 y=v]:=by kernel_rfl
theorem sub_size {W w:World} {H:Hp} (h0:W.hp.Sub H) (h:H.Sub w.hp):W.heap.size≤w.heap.size:=by
 rcases Nat.eq_zero_or_pos W.heap.size with h1 | h1
 ·omega
 ·have h2:=h _ _ (h0 (W.heap.size - 1) W.heap[W.heap.size - 1] (Array.getElem?_eq_getElem (by omega)))
  have:=(Array.getElem?_eq_some_iff.1 h2).1
  omega
structure BookH (W:World) (b:Nat) (c:EntT→List Int) (l:List EntT) (L:List ByteArray):Prop where
 cells:∃ cs e fz,W.heap[b]?=some (.cells cs e fz)∧cs.size=2
 get:BookK W.hp 25 (ptrB b) c l
 ents:∀ w,W.hp.Sub w.hp→Calls Tryz.prog 19 #[ptrB b] w (REn w (lookZ c l) L)
 small:L.length≤1000∧∀ s∈L,s.size≤1000000000
theorem KAb {M0 M:Own} {w00 w0:World} (hM:∀ z,¬ M0 z) (hB:Base M0 w00 M w0) (hX:MX w00):Facts EAb M w0:=
 Facts.of' (Checked.mixed Tryz.checked) (by kernel_rfl) (ExtOK.of extL rfl extRows) (SumsOK.listT (X:=MX) (l:=lAb) rfl (fun r h=>by
  simp only [lAb,List.mem_cons,List.not_mem_nil,or_false] at h
  rcases h with rfl | rfl
  ·exact sort_sum
  ·exact comp_sum) fun ν s w hr _=>hX.keep fun k hk=>(hr.frame k (Nat.lt_of_lt_of_le hk hB.size) (hB.frame k hk (hM k)).2).trans (hB.frame k hk (hM k)).1) (fun f g h=>by cases h)
section
variable {W:World} {cs0:List Frame} {b b1 b2:Nat} {c c1 c2:EntT→List Int} {l l1 l2:List EntT} {L L1 L2:List ByteArray} {M:Own} {ν:Val}
theorem roundN (hX:MX W) (hM:∀ z,¬ M z) (hb:BookH W b c l L) (hL:L≠[]) {i:Nat} (hν:ν i=some (b,0)) {S:SM} {H:Hp} {M1:Own} {w1:World} (hk:Kept W.hp M W H M1 w1) {R:Ending→World→Prop}
  (h1:Owed (callO EAb 19 100 S oB)) (h2:callTop EAb 19 100 S oB=enterF EAb 19 [.ptr i 0] .normal) (h3:∀ (zs:List EntT) n,Owed (newO EAb 19 100 S oB (mkE n) (soE zs)))
  (nx:∀ H' M2 w2 (zs:List EntT),Kept W.hp M W H' M2 w2→zs≠[]→zs.map (·.p)=L→Goes EAb M2 w2 cs0 9 R ν (newT EAb 19 100 S oB (mkE zs.length) (soE zs))):
  Goes EAb M1 w1 cs0 9 R ν S:=by
 refine Goes.callN (KAb hM hk.base hX) hk (n:=100) (g:=19) (o:=oB) (args:=[.ptr i 0]) h1 h2 fun ν' w a hle hsub hgr ha=>?_
 obtain ⟨y1,as1,rfl,q1,ha2⟩:=ha.cons_inv
 obtain rfl:=ha2.nil_inv
 obtain ⟨bb,hbb,rfl⟩:=VR.ptr_iff.1 q1
 have hbb:=hbb.symm.trans (hle i (b,0) hν)
 cases hbb
 refine (hb.ents w (hk.sub0.trans hsub)).mono fun e w' ⟨hB,v,he,hv⟩=>?_
 rcases hv with ⟨h0,_⟩ | ⟨zs,hz,hp,hs,hdat⟩
 ·exact absurd h0 hL
 ·obtain ⟨g,cc,rest,hy,hbase,hnc,hh,hsz⟩:=hs
  refine ⟨hB,v,mkE zs.length,soE zs,g,cc,_,he,hbase,hh,fun ν2 j hj=>⟨⟨vE zs,rest,rfl,?_,?_,(g,cc),hj,hsz⟩,VR.sl_iff.2 ⟨(g,cc),hj,hnc,hy⟩⟩,h3 zs _,fun M2 hK2=>nx _ M2 w' zs hK2 hz hp⟩
  ·rw [← cE_map];exact VRL.lits _ _
  ·rw [← cE_map,List.length_map,List.length_append];omega
theorem roundZ (hX:MX W) (hM:∀ z,¬ M z) (hb:BookH W b c l L) (hL:L=[]) {i:Nat} (hν:ν i=some (b,0)) {S:SM} {H:Hp} {M1:Own} {w1:World} (hk:Kept W.hp M W H M1 w1) {R:Ending→World→Prop}
  (h1:Owed (callO EAb 19 100 S oB)) (h2:callTop EAb 19 100 S oB=enterF EAb 19 [.ptr i 0] .normal) (h3:Owed (backO EAb 19 100 S oB (.v (.slice none 0 0))))
  (nx:∀ H' M2 w2,Kept W.hp M W H' M2 w2→Goes EAb M2 w2 cs0 9 R ν (backT EAb 19 100 S oB (.v (.slice none 0 0)))):
  Goes EAb M1 w1 cs0 9 R ν S:=by
 refine Goes.callV (KAb hM hk.base hX) hk (n:=100) (g:=19) (o:=oB) (args:=[.ptr i 0]) h1 h2 fun ν' w a hle hsub hgr ha=>?_
 obtain ⟨y1,as1,rfl,q1,ha2⟩:=ha.cons_inv
 obtain rfl:=ha2.nil_inv
 obtain ⟨bb,hbb,rfl⟩:=VR.ptr_iff.1 q1
 have hbb:=hbb.symm.trans (hle i (b,0) hν)
 cases hbb
 refine (hb.ents w (hk.sub0.trans hsub)).mono fun e w' ⟨hB,v,he,hv⟩=>?_
 rcases hv with ⟨_,rfl⟩ | ⟨zs,hz,hp,hs,hdat⟩
 ·exact ⟨hB,_,he,fun M2 hK2=>⟨h3,nx _ M2 w' hK2⟩⟩
 ·exact absurd (List.map_eq_nil_iff.1 (hp.trans hL)) hz
def outB (c1 c2:EntT→List Int) (l1 l2:List EntT) (K:List ByteArray):List ByteArray:=(nameC (sortN K)).filter fun q=>diffZ (lookZ c1 l1 q) (lookZ c2 l2 q)
theorem pairs_of (hn:b1≠b2) {w:World} {H:Hp} (h0:W.hp.Sub H) (hs:H.Sub w.hp) (h1:BookH W b1 c1 l1 L1) (h2:BookH W b2 c2 l2 L2) {x1 x2:Nat} (hx1:w.heap[x1]?=some (.cells #[ptrB b1] 27 (0,0))) (hx2:w.heap[x2]?=some (.cells #[ptrB b2] 27 (0,0))):
  x1≠x2∧PairsK w x1 x2 fun q=>diffZ (lookZ c1 l1 q) (lookZ c2 l2 q):=by
 obtain ⟨cs1,e1,f1,hc1,hs1⟩:=h1.cells
 obtain ⟨cs2,e2,f2,hc2,hs2⟩:=h2.cells
 have k1:=hs _ _ (h0 _ _ hc1)
 have k2:=hs _ _ (h0 _ _ hc2)
 have k1:w.heap[b1]?=_:=k1
 have k2:w.heap[b2]?=_:=k2
 have n12:x1≠x2:=by
  rintro rfl
  rw [hx1] at hx2
  have:=Option.some.inj hx2
  injection this with e _ _
  have:=congrArg (fun a:Array Value=>a[0]?) e
  simp [ptrB,hn] at this
 have nb:∀ {x b bb:Nat} {cs:Array Value} {e:TypeId} {f:Nat × Nat},w.heap[x]?=some (.cells #[ptrB bb] 27 (0,0))→w.heap[b]?=some (.cells cs e f)→cs.size=2→x≠b:=by
  rintro x b bb cs e f q1 q2 q3 rfl
  rw [q1] at q2
  cases q2
  cases q3
 refine ⟨n12,fun w2 hs2' q=>?_⟩
 refine pair_calls (W:=w2) (by
  simp only [List.nodup_cons,List.mem_cons,List.not_mem_nil,or_false,not_or,not_false_eq_true,List.nodup_nil,and_true]
  exact ⟨⟨n12,nb hx1 k1 hs1,nb hx1 k2 hs2⟩,⟨nb hx2 k1 hs1,nb hx2 k2 hs2⟩,hn⟩) (hs2' _ _ hx1) (hs2' _ _ hx2) (hs2' _ _ k1) (hs2' _ _ k2) (fun H' w3 q1 q2=>h1.get H' w3 ((h0.trans hs).trans (hs2'.trans q1)) q2) (fun H' w3 q1 q2=>h2.get H' w3 ((h0.trans hs).trans (hs2'.trans q1)) q2) q
theorem found_keep {w w1 w2:World} {H:Hp} {N:List ByteArray} {v:Value} (hs:W.heap.size≤w.heap.size) (h:FoundIs w w1 N v) (hk:(H.grow w w1).Sub w2.hp):FoundIs W w2 N v:=by
 rcases h with h | ⟨h0,g,cc,rest,hy,hbase,hnc,hh,hsz⟩
 ·exact .inl h
 ·refine .inr ⟨h0,g,cc,rest,hy,Nat.le_trans hs hbase,hnc,hk _ _ ?_,hsz⟩
  unfold Hp.grow
  rw [if_neg (by omega)];exact hh
theorem cell_of {ν':Val} {j x:Nat} {o:Obj} (h:OR ν' x (cellB j) o) {bb:Nat} (hj:ν' j=some (bb,0)):o=.cells #[ptrB bb] 27 (0,0):=by
 obtain ⟨zs,rest,rfl,hz,hx⟩:=h
 obtain ⟨z1,u,rfl,r1,hu⟩:=hz.cons_inv
 obtain rfl:=hu.nil_inv
 obtain ⟨bb',hbb,rfl⟩:=VR.ptr_iff.1 r1
 rw [hj] at hbb;cases hbb
 have h0:rest=[]:=by
  have:([Value.pointer (some ⟨bb,0,none⟩)]++rest).length=1:=hx
  simpa using this
 subst h0;rfl
def RAb (W:World) (N:List ByteArray) (e:Ending) (w':World):Prop:=Below W.heap.size W w'∧∃ v,e=.returned v∧FoundIs W w' N v
theorem small_sort {K:List ByteArray} (h:SmallN K):SmallN (sortN K):=
 ⟨fun e=>h.1 (List.length_eq_zero_iff.1 (by rw [← (sortN_perm K).length_eq,e];rfl)),by rw [(sortN_perm K).length_eq];exact h.2.1,fun s hs=>h.2.2 s ((sortN_perm K).mem_iff.1 hs)⟩
theorem loopAb1 (hX:MX W) (hM:∀ z,¬ M z) (hn:b1≠b2) (h1:BookH W b1 c1 l1 L1) (h2:BookH W b2 c2 l2 L2) (hν0:ν 0=some (b1,0)) (hν1:ν 1=some (b2,0)) (hν:∀ i b,ν i=some b→i=0∨i=1) {zs:List EntT} (hz:SmallN (zs.map (·.p))):
  ∀ (j i:Nat),i+j=zs.length→0<i→∀ H M1 w1,Kept W.hp M W H M1 w1→
   Goes EAb M1 w1 cs0 9 (RAb W (outB c1 c2 l1 l2 (zs.map (·.p)))) ν (SM.at (hdAb zs.length (.sl 5 0 i none) (i:Int)) 6 (objA1 (cE zs) (strs ((zs.map (·.p)).take i))))
 | 0,i,hj,hi0,H,M1,w1,hk=>by
  have hlen:=hz.2.1
  rw [List.take_of_length_le (by simp;omega)]
  have hzl:(zs.map (·.p)).length=i:=by simp;omega
  have ho:=decide_eq_false (show ¬ (i:Int)<(zs.length:Int) by omega)
  have hsm:=small_sort hz
  have hsl:=(sortN_perm (zs.map (·.p))).length_eq
  refine Goes.callH (KAb hM hk.base hX) hk (n:=100) (g:=22) (o:=ff [0] false) (args:=[.v (.int .i64 3),cloB,.sl 5 0 (nameC (strsOf (strs (sortN (strsOf (strs (zs.map (·.p)))))))).length none]) ?_ (by kernel_rfl) fun ν' w a hle hsub hgr ha hlk=>?_
  ·rw [gx0]
   simp only [Owed,strsOf_strs,hzl,hsl,ho,and_self,and_true,true_and]
   first | exact ⟨hsm,hz⟩ | exact ⟨hz,hsm⟩
  simp only [strsOf_strs] at ha
  obtain ⟨y1,as1,rfl,q1,ha2⟩:=ha.cons_inv
  obtain ⟨y2,as2,rfl,q2,ha3⟩:=ha2.cons_inv
  obtain ⟨y3,as3,rfl,q3,ha4⟩:=ha3.cons_inv
  obtain rfl:=ha4.nil_inv
  obtain rfl:=VR.v_iff.1 q1
  obtain ⟨fa,fb,rfl,r1,r2⟩:=VR.func_iff.1 q2
  obtain rfl:=r1.nil_inv
  obtain ⟨p1,fb1,rfl,t1,r3⟩:=r2.cons_inv
  obtain ⟨p2,fb2,rfl,t2,r4⟩:=r3.cons_inv
  obtain rfl:=r4.nil_inv
  obtain ⟨x1,e1,rfl⟩:=VR.ptr_iff.1 t1
  obtain ⟨x2,e2,rfl⟩:=VR.ptr_iff.1 t2
  obtain ⟨g,eg,hgl,rfl⟩:=VR.sl_iff.1 q3
  obtain ⟨x1',ob1,e1',hx1,o1⟩:=hlk 2 (cellB 0) true (by kernel_rfl)
  obtain ⟨x2',ob2,e2',hx2,o2⟩:=hlk 3 (cellB 1) true (by kernel_rfl)
  rw [e1] at e1';cases e1'
  rw [e2] at e2';cases e2'
  rw [cell_of o1 (hle 0 _ hν0)] at hx1
  rw [cell_of o2 (hle 1 _ hν1)] at hx2
  obtain ⟨g',og,eg',hg,o3⟩:=hlk 5 (.row (strs (nameC (strsOf (strs (sortN (strsOf (strs (zs.map (·.p)))))))++List.replicate (i - (nameC (strsOf (strs (sortN (strsOf (strs (zs.map (·.p)))))))).length) (⟨#[]⟩:ByteArray))) 9 (0,0) (some 1)) true (by kernel_rfl)
  rw [eg] at eg';cases eg'
  simp only [strsOf_strs] at o3
  obtain ⟨ys,rest,rfl,hys,hxg⟩:=o3
  have hys:ys=_:=plain_sol hys (VRL.lits ν' _)
  subst hys
  obtain ⟨n12,hpairs⟩:=pairs_of hn hk.sub0 hsub h1 h2 hx1 hx2
  have hrow:w.heap[g.1]?=some (.cells ((nameC (sortN (zs.map (·.p)))).map Value.string++((List.replicate (i - (nameC (sortN (zs.map (·.p)))).length) (⟨#[]⟩:ByteArray)).map Value.string++rest)).toArray 9 (0,0)):=by
   rw [hg,List.map_append,List.append_assoc];rfl
  have hne:∀ {x bb:Nat},w.heap[x]?=some (.cells #[ptrB bb] 27 (0,0))→g.1≠x:=by
   rintro x bb hx rfl
   rw [hx] at hrow
   have:=Option.some.inj hrow
   injection this with _ e _
   cases e
  have hgl':(nameC (sortN (zs.map (·.p)))).length≤g.2:=hgl
  have hnl:(nameC (sortN (zs.map (·.p)))).length≤100000:=by
   rw [nameC_len]
   have:(Lib.compact ((sortN (zs.map (·.p))).map fun s:ByteArray=>s.data.toList)).length≤(sortN (zs.map (·.p))).length:=by
    unfold Lib.compact Lib.compactUpTo
    rw [List.length_map,List.length_map]
    exact Nat.le_trans (List.length_filter_le _ _) (by simp)
   exact Nat.le_trans this hsm.2.1
  refine (found_calls (c:=g.2) (by
   simp only [List.nodup_cons,List.mem_cons,List.not_mem_nil,or_false,not_or,not_false_eq_true,List.nodup_nil,and_true]
   exact ⟨⟨hne hx1,hne hx2⟩,n12⟩) hrow hx1 hx2 hpairs hnl hgl').mono fun e w' ⟨hB,v,he,hv⟩=>⟨hB,v,he,fun M2 hK2=>⟨?_,?_⟩⟩
  ·rw [gx1]
   simp only [Owed,strsOf_strs,hzl,hsl,ho,and_self,and_true,true_and]
   first | exact ⟨hsm,hz⟩ | exact ⟨hz,hsm⟩
  ·refine Goes.endsV (KAb hM hK2.base hX) (n:=100) (o:=oB) (v:=v) ?_ fun ν'' M3 w3 s3 w4 _ hB3 hr3=>⟨below_of hM (hK2.base.trans hB3) hr3,v,rfl,found_keep (sub_size hk.sub0 hsub) hv (hK2.now hB3 hr3)⟩
   rw [gx2]
   simp only [Owed,and_self,and_true,true_and]
 | j+1,i,hj,hi0,H,M1,w1,hk=>by
  have hi:i<zs.length:=by omega
  have few:=hz.2.1
  rw [List.length_map] at few
  have hzi:zs[i]?=some zs[i]:=List.getElem?_eq_getElem hi
  have nx:=loopAb1 hX hM hn h1 h2 hν0 hν1 hν hz j (i+1) (by omega) (by omega) H M1 w1 hk
  have hts:(zs.map (·.p)).take (i+1)=(zs.map (·.p)).take i++[zs[i].p]:=by rw [List.take_add_one,List.getElem?_map,hzi];rfl
  have hst:strs ((zs.map (·.p)).take (i+1))=strs ((zs.map (·.p)).take i)++[.v (.string zs[i].p)]:=by rw [hts];unfold strs;simp
  have hsl:(strs ((zs.map (·.p)).take i)).length=i:=by rw [strs_len,List.length_take,List.length_map];omega
  rw [hst] at nx
  refine Goes.reach (KAb hM hk.base hX) (k:=2) (n:=100) (o:=ff [0] true++[(2,.cells (eC zs[i])),(3,.app (strs ((zs.map (·.p)).take i)) [.v (.string zs[i].p)])]) (ren:=[(0,0),(1,1),(2,2),(3,3),(4,4),(5,8)]) (eqs:=[4,5]) ?_ (by kernel_rfl) (fun i b h=>by rcases hν i b h with h | h <;> rw [h] <;> rfl) nx
  rw [ga1]
  simp only [Owed,Int.toNat_natCast,wrap_succ (k:=i) (by omega),in_range hi,decide_eq_true (show (i:Int)<(zs.length:Int) by omega),cE_at hzi,eC_len,cE_closed,strs_closed,List.all_append,hsl,and_self,and_true,true_and]
  repeat' apply And.intro
  all_goals first | rfl | omega | exact List.take_of_length_le (by rw [hsl];omega) | skip
theorem loopAb0 (hX:MX W) (hM:∀ z,¬ M z) (hn:b1≠b2) (h1:BookH W b1 c1 l1 L1) (h2:BookH W b2 c2 l2 L2) (hν0:ν 0=some (b1,0)) (hν1:ν 1=some (b2,0)) (hν:∀ i b,ν i=some b→i=0∨i=1) {zs:List EntT} (hz:SmallN (zs.map (·.p))) {H:Hp} {M1:Own} {w1:World} (hk:Kept W.hp M W H M1 w1):
  Goes EAb M1 w1 cs0 9 (RAb W (outB c1 c2 l1 l2 (zs.map (·.p)))) ν (SM.at (hdAb zs.length nilE ((0:Nat):Int)) 6 (objA0 (cE zs))):=by
 have hi:0<zs.length:=by
  have:=List.length_pos_iff.2 hz.1
  simpa using this
 have few:=hz.2.1
 rw [List.length_map] at few
 have hzi:zs[0]?=some zs[0]:=List.getElem?_eq_getElem hi
 have nx:=loopAb1 (cs0:=cs0) hX hM hn h1 h2 hν0 hν1 hν hz (zs.length - 1) 1 (by omega) (by omega) H M1 w1 hk
 have hst:strs ((zs.map (·.p)).take 1)=[.v (.string zs[0].p)]:=by
  rw [show (zs.map (·.p)).take 1=[zs[0].p] by rw [List.take_add_one,List.getElem?_map,hzi];rfl];rfl
 rw [hst] at nx
 refine Goes.reach (KAb hM hk.base hX) (k:=2) (n:=100) (o:=ff [0] true++[(2,.cells (eC zs[0]))]++ff [3] false) (ren:=[(0,0),(1,1),(2,2),(3,3),(4,4),(5,7)]) (eqs:=[4,5]) ?_ (by kernel_rfl) (fun i b h=>by rcases hν i b h with h | h <;> rw [h] <;> rfl) nx
 rw [ga0]
 simp only [Owed,Int.toNat_natCast,wrap_succ (k:=0) (by omega),in_range hi,decide_eq_true (show ((0:Nat):Int)<(zs.length:Int) by omega),cE_at hzi,eC_len,cE_closed,and_self,and_true,true_and]
 repeat' apply And.intro
 all_goals first | rfl | omega | skip
end
theorem books_calls {W:World} {b1 b2:Nat} {c1 c2:EntT→List Int} {l1 l2:List EntT} {L1 L2:List ByteArray} (hX:MX W) (hn:b1≠b2) (h1:BookH W b1 c1 l1 L1) (h2:BookH W b2 c2 l2 L2):
  Calls Tryz.prog 9 #[ptrB b1,ptrB b2] W (RAb W (outB c1 c2 l1 l2 (L1++L2))):=by
 obtain ⟨cs1,e1,f1,hc1,hs1⟩:=h1.cells
 obtain ⟨cs2,e2,f2,hc2,hs2⟩:=h2.cells
 have ho:∀ (j:Nat) (o':SO) (b' c':Nat),[SO.look [],SO.look []][j]?=some o'→[(b1,0),(b2,0)][j]?=some (b',c')→∃ r,W.heap[b']?=some r∧OR (layVal [(b1,0),(b2,0)]) j o' r:=by
  intro j o' b' c' q1 q2
  match j with
  | 0=>
   simp only [List.getElem?_cons_zero,Option.some.injEq] at q1 q2
   subst q1
   cases q2
   exact ⟨_,hc1,[],_,_,_,rfl,VRL.nil,fun k y h=>by simp at h⟩
  | 1=>
   simp only [List.getElem?_cons_succ,List.getElem?_cons_zero,Option.some.injEq] at q1 q2
   subst q1
   cases q2
   exact ⟨_,hc2,[],_,_,_,rfl,VRL.nil,fun k y h=>by simp at h⟩
  | j+2=>simp at q1
 refine calls_readR (E:=EAb) rfl (d:=6) (l:=[(b1,0),(b2,0)]) (os:=[.look [],.look []]) rfl (by simp) (by simpa using hn) ho rfl (args:=[.ptr 0 0,.ptr 1 0]) (a:=[ptrB b1,ptrB b2]) (S0:=entAb) (by kernel_rfl) (VRL.cons (VR.ptr_iff.2 ⟨(b1,0),rfl,rfl⟩) (VRL.cons (VR.ptr_iff.2 ⟨(b2,0),rfl,rfl⟩) VRL.nil)) fun cs0=>?_
 have hM:∀ z,¬ (layOwn [(b1,0),(b2,0)] ([SO.look [],SO.look []].map fun o=>(o,false))) z:=fun z=>layOwn_none (os:=[SO.look [],SO.look []])
 have hK0:=Kept.start (H0:=W.hp) (M:=layOwn [(b1,0),(b2,0)] ([SO.look [],SO.look []].map fun o=>(o,false))) (w:=W) (Hp.Sub.refl _) (fun z o _=>hM z) (layOwn_r (by
  intro j o' m b' c' q1 q2
  rw [List.getElem?_map] at q1
  obtain ⟨o2,q3,q4⟩:=Option.map_eq_some_iff.1 q1
  cases q4
  exact ho j o' b' c' q3 q2)) (fun _ h=>h)
 have hν:∀ i c,layVal [(b1,0),(b2,0)] i=some c→i=0∨i=1:=fun i c h=>by
  match i with
  | 0=>exact .inl rfl
  | 1=>exact .inr rfl
  | i+2=>simp [layVal] at h
 have hsm:∀ zs:List EntT,zs≠[]→zs.map (·.p)=L1++L2→SmallN (zs.map (·.p)):=fun zs hz hp=>by
  refine ⟨by simpa using hz,by rw [hp,List.length_append];have:=h1.small.1;have:=h2.small.1;omega,fun s hs=>?_⟩
  rw [hp] at hs
  rcases List.mem_append.1 hs with hs | hs
  ·exact h1.small.2 s hs
  ·exact h2.small.2 s hs
 have hq0:layVal [(b1,0),(b2,0)] 0=some (b1,0):=rfl
 have hq1:layVal [(b1,0),(b2,0)] 1=some (b2,0):=rfl
 generalize layVal [(b1,0),(b2,0)]=ν at hν hq0 hq1 ⊢
 by_cases hL1:L1=[]
 ·refine roundZ hX hM h1 hL1 (i:=0) hq0 hK0 (by rw [ab0 ()];trivial) (by kernel_rfl) (by rw [ab2 ()];simp [Owed]) fun H1 M2 w2 hk1=>?_
  show Goes EAb M2 w2 cs0 _ _ ν abZ
  by_cases hL2:L2=[]
  ·refine roundZ hX hM h2 hL2 (i:=1) hq1 hk1 (by rw [ab4 ()];trivial) (by kernel_rfl) (by rw [ab8 ()];trivial) fun H2 M3 w3 hk2=>?_
   show Goes EAb M3 w3 cs0 _ _ ν abZZ
   refine Goes.callV (KAb hM hk2.base hX) hk2 (n:=100) (g:=22) (o:=oB) (args:=[.v (.int .i64 3),cloB,.v (.slice none 0 0)]) ?_ (by kernel_rfl) fun ν' w a hle hsub hgr ha=>?_
   ·rw [abC ()]
    simp only [Owed,and_self,and_true,true_and]
   obtain ⟨y1,as1,rfl,q1,ha2⟩:=ha.cons_inv
   obtain ⟨y2,as2,rfl,q2,ha3⟩:=ha2.cons_inv
   obtain ⟨y3,as3,rfl,q3,ha4⟩:=ha3.cons_inv
   obtain rfl:=ha4.nil_inv
   obtain rfl:=VR.v_iff.1 q1
   obtain rfl:=VR.v_iff.1 q3
   refine (found_nil y2).mono fun e w' ⟨hB,v,he,hv⟩=>⟨hB,v,he,fun M4 hK4=>⟨?_,?_⟩⟩
   ·rw [abD]
    simp only [Owed,and_self,and_true,true_and]
   ·refine Goes.endsV (KAb hM hK4.base hX) (n:=100) (o:=oB) (v:=v) ?_ fun ν'' M3 w3 s3 w4 _ hB3 hr3=>⟨below_of hM (hK4.base.trans hB3) hr3,v,rfl,?_⟩
    ·rw [abE]
     simp only [Owed,and_self,and_true,true_and]
    ·rw [hL1,hL2]
     have:nameC (sortN [])=[]:=by
      rw [show sortN []=[] from List.length_eq_zero_iff.1 (sortN_perm []).length_eq];rfl
     show FoundIs W w4 ((nameC (sortN ([]++[]))).filter _) v
     rw [List.append_nil,this]
     exact found_keep (sub_size hk2.sub0 hsub) hv (hK4.now hB3 hr3)
  ·refine roundN hX hM h2 hL2 (i:=1) hq1 hk1 (by rw [ab4 ()];trivial) (by kernel_rfl) (fun zs n=>by rw [ab7];trivial) fun H2 M3 w3 zs hk2 hz hp=>?_
   show Goes EAb M3 w3 cs0 _ _ ν (abZN zs zs.length)
   have hzp:zs.map (·.p)=L1++L2:=by rw [hL1,hp];rfl
   have nx:=loopAb0 (cs0:=cs0) hX hM hn h1 h2 hq0 hq1 hν (hsm zs hz hzp) hk2
   rw [hzp] at nx
   have few:=(hsm zs hz hzp).2.1
   rw [List.length_map] at few
   have hzl:=List.length_pos_iff.2 hz
   refine Goes.reach (KAb hM hk2.base hX) (k:=2) (n:=100) (o:=[(0,.app [] (cE zs))]) (ren:=[(0,0),(1,1),(2,2),(3,3),(4,5)]) (eqs:=[4]) (F:=hdAb zs.length nilE 0) (d:=6) (l:=objA0 (cE zs)) ?_ (by kernel_rfl) (fun i b h=>by rcases hν i b h with h | h <;> rw [h] <;> rfl) nx
   rw [abB]
   simp only [Owed,cE_closed,cE_len,and_self,and_true,true_and]
   repeat' apply And.intro
   all_goals first | rfl | omega | exact List.take_of_length_le (by simp only [List.drop_zero];exact Nat.le_of_eq (cE_len zs)) | skip
 ·refine roundN hX hM h1 hL1 (i:=0) hq0 hK0 (by rw [ab0 ()];trivial) (by kernel_rfl) (fun zs n=>by rw [ab1];simp [Owed]) fun H1 M2 w2 zs1 hk1 hz1 hp1=>?_
  show Goes EAb M2 w2 cs0 _ _ ν (abN zs1 zs1.length)
  by_cases hL2:L2=[]
  ·refine roundZ hX hM h2 hL2 (i:=1) hq1 hk1 (by rw [ab3];trivial) (by kernel_rfl) (by rw [ab6];trivial) fun H2 M3 w3 hk2=>?_
   show Goes EAb M3 w3 cs0 _ _ ν (abNZ zs1 zs1.length)
   have hzp:zs1.map (·.p)=L1++L2:=by rw [hL2,hp1,List.append_nil]
   have nx:=loopAb0 (cs0:=cs0) hX hM hn h1 h2 hq0 hq1 hν (hsm zs1 hz1 hzp) hk2
   rw [hzp] at nx
   refine Goes.reach (KAb hM hk2.base hX) (k:=2) (n:=100) (o:=oB) (ren:=[(0,0),(1,1),(2,2),(3,3),(4,4)]) (eqs:=[4]) (F:=hdAb zs1.length nilE 0) (d:=6) (l:=objA0 (cE zs1)) ?_ (by kernel_rfl) (fun i b h=>by rcases hν i b h with h | h <;> rw [h] <;> rfl) nx
   rw [abA]
   simp only [Owed,cE_closed,and_self,and_true,true_and]
   repeat' apply And.intro
   all_goals first | rfl | omega | skip
  ·refine roundN hX hM h2 hL2 (i:=1) hq1 hk1 (by rw [ab3];trivial) (by kernel_rfl) (fun zs n=>by rw [ab5];trivial) fun H2 M3 w3 zs2 hk2 hz2 hp2=>?_
   show Goes EAb M3 w3 cs0 _ _ ν (abNN zs1 zs2 zs1.length zs2.length)
   have hzp:(zs1++zs2).map (·.p)=L1++L2:=by rw [List.map_append,hp1,hp2]
   have hne:zs1++zs2≠[]:=by simp [hz1]
   have nx:=loopAb0 (cs0:=cs0) hX hM hn h1 h2 hq0 hq1 hν (hsm _ hne hzp) hk2
   rw [hzp,List.length_append,cE_app] at nx
   have few:=(hsm _ hne hzp).2.1
   rw [List.length_map,List.length_append] at few
   have hzl:=List.length_pos_iff.2 hz2
   refine Goes.reach (KAb hM hk2.base hX) (k:=2) (n:=100) (o:=[(0,.app (cE zs1) (cE zs2))]) (ren:=[(0,0),(1,1),(2,2),(3,3),(4,6)]) (eqs:=[4]) (F:=hdAb (zs1.length+zs2.length) nilE 0) (d:=6) (l:=objA0 (cE zs1++cE zs2)) ?_ (by kernel_rfl) (fun i b h=>by rcases hν i b h with h | h <;> rw [h] <;> rfl) nx
   rw [ab9]
   simp only [Owed,List.all_append,cE_closed,cE_len,cE_flat,and_self,and_true,true_and]
   repeat' apply And.intro
   all_goals first | rfl | omega | exact List.take_of_length_le (by simp only [List.drop_zero];exact Nat.le_of_eq (cE_len _)) | exact List.take_of_length_le (Nat.le_of_eq (cE_len _)) | skip
def lC (q:ByteArray):List SV:=[.v (.string q),.v (.int .i64 2),.v (.slice none 0 0)]
def lV (q:ByteArray):List Value:=[.string q,.int .i64 2,.slice none 0 0]
def rowsQ (l:List SV):Option (SO × Bool):=some (.row l 54 (0,0) (some 3),true)
def cQ (l:List ByteArray):List SV:=l.flatMap lC
def vQ (l:List ByteArray):List Value:=l.flatMap lV
theorem lC_len (e:ByteArray):(lC e).length=3:=rfl
theorem lC_closed (e:ByteArray):(lC e).all closedSV=true:=rfl
theorem cQ_app (a b:List ByteArray):cQ (a++b)=cQ a++cQ b:=by simp [cQ]
theorem cQ_one (e:ByteArray):cQ [e]=lC e:=by simp [cQ]
theorem cQ_len:∀ a:List ByteArray,(cQ a).length=a.length*3
 | []=>rfl
 | e::a=>by
  have:=cQ_len a
  show (lC e++cQ a).length=_
  rw [List.length_append,this,lC_len,List.length_cons];omega
theorem cQ_closed (a:List ByteArray):(cQ a).all closedSV=true:=by
 rw [List.all_eq_true];intro x hx
 obtain ⟨r,_,hx⟩:=List.mem_flatMap.1 hx
 exact List.all_eq_true.1 (lC_closed r) x hx
theorem cQ_flat (a:List ByteArray):(cQ a).all SV.flat=true:=by
 rw [List.all_eq_true];intro x hx
 obtain ⟨r,_,hx⟩:=List.mem_flatMap.1 hx
 exact List.all_eq_true.1 (show (lC r).all SV.flat=true from rfl) x hx
theorem cQ_map:∀ l:List ByteArray,(vQ l).map SV.v=cQ l
 | []=>rfl
 | r::l=>by
  show (lV r++vQ l).map SV.v=lC r++cQ l
  rw [List.map_append,cQ_map l];rfl
theorem cQ_val {ν:Val} {l:List ByteArray} {zs:List Value} (h:VRL ν (cQ l) zs):zs=vQ l:=by
 rw [← cQ_map] at h
 exact plain_sol h (VRL.lits ν (vQ l))
theorem cQ_at {xs:List ByteArray} {k:Nat} {x:ByteArray} (h:xs[k]?=some x):List.take 3 (List.drop (0+k*3) (cQ xs))=lC x:=by
 rw [Nat.zero_add];exact flatMap_at lC_len h
theorem cQ_cell0 {xs:List ByteArray} {k:Nat} {x:ByteArray} (h:xs[k]?=some x):(cQ xs)[0+k*3+0]?=some (.v (.string x)):=by
 have h2:(List.take 3 (List.drop (0+k*3) (cQ xs)))[0]?=(lC x)[0]?:=by rw [cQ_at h]
 rw [List.getElem?_take,if_pos (by decide),List.getElem?_drop] at h2
 exact h2
def decQ (l:List SV):ByteArray:=match l with
 | .v (.string p)::_=>p
 | _=>⟨#[]⟩
theorem decQ_lC (e:ByteArray):decQ (lC e)=e:=rfl
def leavesOf (ys:List SV) (n:Nat):List ByteArray:=decL decQ 3 n ys
theorem leavesOf_cQ (l:List ByteArray):leavesOf (cQ l) l.length=l:=decL_flat lC_len decQ_lC l
structure HoldsQ (ys:List SV) (n:Nat) (l:List ByteArray):Prop where
 cells:ys=cQ l
 len:n=l.length
 few:n≤1000
def isQ (p:ByteArray) (e:ByteArray):Bool:=e.data.toList==p.data.toList
def dropQ (p:ByteArray) (l:List ByteArray):List ByteArray:=l.filter fun e=>!isQ p e
noncomputable def entW8 (l:List SV) (n c:Nat) (p:ByteArray):SM:=(enterS EN0 50 [.sl 0 0 n (some c),.v (.string p)] (memOf 6 1 0 [lookL8 l])).getD noSM
where lookL8 (l:List SV):Option (SO × Bool):=some (.look l,false)
noncomputable def todoW8:List SI:=todoL EN0 2 60 (entW8 [] 0 0 ⟨#[]⟩) [(1000,.b true)]
noncomputable def hdW8 (n c:Nat) (p:ByteArray) (x:SV) (i:Int):SF:={ fn:=50,tm:=tmOf 28 6 ([.sl 0 0 n (some c),.v (.string p),.junk,.junk,.junk,x,.v (.int .i64 i)]++List.replicate 21 .junk),todo:=todoW8,defers:=[],ret:=false,kind:=.normal,ro:=none }
theorem we0 (l:List SV) (n c:Nat) (p:ByteArray):reach EN0 2 60 (entW8 l n c p) [(1000,.b true)] [(0,0)] [0] (hdW8 n c p nilE 0) 6 [lkE l]=[
 (0:Nat)=(0:Nat)∧n=n∧some c=some c,
 Value.string p=Value.string p,
 Value.slice none (0:Nat) (0:Nat)=Value.slice none (0:Nat) (0:Nat),
 Value.int IntKind.i64 (0:Int)=Value.int IntKind.i64 (0:Int),
 l=l,
 l.all closedSV=true]:=by kernel_rfl
theorem we1 (l:List SV) (n c:Nat) (p q:ByteArray) (i i':Int):reach EN0 2 60 (SM.at (hdW8 n c p nilE i) 6 [lkE l]) (ff [0] true++[(2,.cells [.v (.string q)])]++ff [3] false) [(0,0)] [0] (hdW8 n c p nilE i') 6 [lkE l]=[
 (0:Nat)=(0:Nat)∧n=n∧some c=some c,
 Value.string p=Value.string p,
 Value.slice none (0:Nat) (0:Nat)=Value.slice none (0:Nat) (0:Nat),
 Value.int IntKind.i64 (IntKind.i64.wrap (i+(1:Int)))=Value.int IntKind.i64 i',
 l=l,
 l.all closedSV=true,
 (!q.toList==p.toList)=false,
 l[(0:Nat)+i.toNat*(3:Nat)+(0:Nat)]?=some (SV.v (Value.string q)),
 inRange i n=true,
 decide (i<(↑n:Int))=true]:=by kernel_rfl
theorem we2 (l l' : List SV) (n c : Nat) (p q : ByteArray) (i i' : Int) (e : ByteArray) : reach EN0 2 60 (SM.at (hdW8 n c p nilE i) 6 [lkE l]) (ff [0] true ++ [(2, .cells [.v (.string q)])] ++ ff [3] true ++ [(5, .cells (lC e))]) [(0, 0), (1, 2)] [0, 1] (hdW8 n c p (.sl 1 0 1 none) i') 6 [lkE l, rowsQ l'] = [
  (0 : Nat) = (0 : Nat) ∧ n = n ∧ some c = some c,
  Value.string p = Value.string p,
  (0 : Nat) = (0 : Nat) ∧ (1 : Nat) = (1 : Nat) ∧ (none : Option Nat) = none,
  Value.int IntKind.i64 (IntKind.i64.wrap (i + (1 : Int))) = Value.int IntKind.i64 i',
  l = l,
  l.all closedSV = true,
  [] ++
   List.take (3 : Nat)
   (List.drop (0 : Nat)
   (splice
   (List.replicate (1 : Nat)
   (List.map SV.v
   {
   toList :=
   [Value.string { data := { toList := [] : Array UInt8 } : ByteArray },
   Value.int IntKind.i64 (0 : Int), Value.slice none (0 : Nat) (0 : Nat)] :
   Array Value }.toList)).flatten
   (0 : Nat) (lC e))) =
   l',
  l'.all closedSV = true,
  List.take (3 : Nat) (List.drop ((0 : Nat) + i.toNat * (3 : Nat)) l) = lC e ∧ (lC e).length = (3 : Nat),
  inRange i n = true,
  (!q.toList == p.toList) = true,
  l[(0 : Nat) + i.toNat * (3 : Nat) + (0 : Nat)]? = some (SV.v (Value.string q)),
  inRange i n = true,
  decide (i < (↑n : Int)) = true] := by kernel_rfl
theorem we3 (l m:List SV) (n c k:Nat) (p q:ByteArray) (i i':Int):reach EN0 2 60 (SM.at (hdW8 n c p (.sl 1 0 k none) i) 6 [lkE l,rowsQ m]) (ff [0] true++[(2,.cells [.v (.string q)])]++ff [3] false) [(0,0),(1,1)] [0,1] (hdW8 n c p (.sl 1 0 k none) i') 6 [lkE l,rowsQ m]=[
 (0:Nat)=(0:Nat)∧n=n∧some c=some c,
 Value.string p=Value.string p,
 (0:Nat)=(0:Nat)∧k=k∧(none:Option Nat)=none,
 Value.int IntKind.i64 (IntKind.i64.wrap (i+(1:Int)))=Value.int IntKind.i64 i',
 l=l,
 l.all closedSV=true,
 m=m,
 m.all closedSV=true,
 (!q.toList==p.toList)=false,
 l[(0:Nat)+i.toNat*(3:Nat)+(0:Nat)]?=some (SV.v (Value.string q)),
 inRange i n=true,
 decide (i<(↑n:Int))=true]:=by kernel_rfl
theorem we4 (l m l' w : List SV) (n c k : Nat) (p q : ByteArray) (i i' : Int) (e : ByteArray) : reach EN0 2 60 (SM.at (hdW8 n c p (.sl 1 0 k none) i) 6 [lkE l, rowsQ m]) (ff [0] true ++ [(2, .cells [.v (.string q)])] ++ ff [3] true ++ [(5, .cells (lC e)), (6, .app m w)]) [(0, 0), (1, 3)] [0, 1] (hdW8 n c p (.sl 1 0 (k + 1) none) i') 6 [lkE l, rowsQ l'] = [
  (0 : Nat) = (0 : Nat) ∧ n = n ∧ some c = some c,
  Value.string p = Value.string p,
  (0 : Nat) = (0 : Nat) ∧ k + (1 : Nat) = k + (1 : Nat) ∧ (none : Option Nat) = none,
  Value.int IntKind.i64 (IntKind.i64.wrap (i + (1 : Int))) = Value.int IntKind.i64 i',
  l = l,
  l.all closedSV = true,
  m ++ w = l',
  l'.all closedSV = true,
  ((List.take (3 : Nat)
   (List.drop (0 : Nat)
   (splice
   (List.replicate (1 : Nat)
   (List.map SV.v
   {
   toList :=
   [Value.string { data := { toList := [] : Array UInt8 } : ByteArray },
   Value.int IntKind.i64 (0 : Int), Value.slice none (0 : Nat) (0 : Nat)] :
   Array Value }.toList)).flatten
   (0 : Nat) (lC e))) =
   w ∧
   w.length = (1 : Nat) * (3 : Nat)) ∧
   (1 : Nat) ≠ (0 : Nat) ∧ ((2 : Nat) * (k + (1 : Nat)) + (1024 : Nat)) * (48 : Nat) ≤ (140737488355328 : Nat)) ∧
   List.take (k * (3 : Nat)) m = m ∧ m.length = k * (3 : Nat) ∧ w.all SV.flat = true,
  List.take (3 : Nat) (List.drop ((0 : Nat) + i.toNat * (3 : Nat)) l) = lC e ∧ (lC e).length = (3 : Nat),
  inRange i n = true,
  (!q.toList == p.toList) = true,
  l[(0 : Nat) + i.toNat * (3 : Nat) + (0 : Nat)]? = some (SV.v (Value.string q)),
  inRange i n = true,
  decide (i < (↑n : Int)) = true] := by kernel_rfl
theorem we5 (l:List SV) (n c:Nat) (p:ByteArray) (i:Int) (v:Value):endsV EN0 50 60 (SM.at (hdW8 n c p nilE i) 6 [lkE l]) (ff [0] false) v=[
 Value.slice none (0:Nat) (0:Nat)=v,
 decide (i<(↑n:Int))=false]:=by kernel_rfl
theorem we6 (l m:List SV) (n c k:Nat) (p:ByteArray) (i:Int):endsO EN0 50 60 (SM.at (hdW8 n c p (.sl 1 0 k none) i) 6 [lkE l,rowsQ m]) (ff [0] false) (.sl 1 0 k none) 1 (.row m 54 (0,0) (some 3))=[
 (0:Nat)=(0:Nat)∧k=k∧(none:Option Nat)=none,
 m=m,
 m.all closedSV=true,
 decide (i<(↑n:Int))=false]:=by kernel_rfl
theorem dropQ_snoc (p:ByteArray) {xs:List ByteArray} {i:Nat} (h:i<xs.length):dropQ p (xs.take (i+1))=dropQ p (xs.take i)++(if isQ p xs[i]=true then [] else [xs[i]]):=by
 rw [List.take_succ_eq_append_getElem h]
 unfold dropQ
 rw [List.filter_append]
 congr 1
 cases hp:isQ p xs[i] <;> simp [hp]
theorem dropQ_len (p:ByteArray) (xs:List ByteArray):(dropQ p xs).length≤xs.length:=List.length_filter_le _ _
theorem ends_sq {E:Env} {M:Own} {w0:World} {cs0:List Frame} {f:FuncId} {R:Ending→World→Prop} {ν:Val} {n:Nat} {S:SM} {o:List (Nat × Ans)} {m j:Nat} {l:List ByteArray} (K:Facts E M w0) (hM:∀ z,¬ M z)
  (h:Due (endsO E f n S o (.sl j 0 m none) j (.row (cQ l) 54 (0,0) (some 3)))) (hR:∀ w' y,Below w0.heap.size w0 w'→NewSl w0 w' y (vQ l) m 3 54→R (.returned y) w'):Goes E M w0 cs0 f R ν S:=
 Goes.endsO K h.out fun ν' w' y b ob hv hb ho hor hw hB=>by
  have hn:w0.heap.size≤b.1:=by
   rcases hw with h | h
   ·exact h
   ·exact absurd h (hM _)
  obtain ⟨_,_,_,_,hB,hr⟩:=hB
  exact hR w' y (below_of hM hB hr) (NewSl.of_row hv hb ho hor hn fun zs hz=>cQ_val hz)
def RW8 (w0:World) (xs:List ByteArray) (e:Ending) (w':World):Prop:=
 Below w0.heap.size w0 w'∧((xs=[]∧e=.returned (.slice none 0 0))∨(xs≠[]∧∃ y,e=.returned y∧NewSl w0 w' y (vQ xs) xs.length 3 54))
section
variable {w0:World} {cs0:List Frame} {xs:List ByteArray} {p:ByteArray} {b:Nat × Nat} {c:Nat}
theorem loopW82 (hl:xs.length≤1000):∀ (j i:Nat),i+j=xs.length→dropQ p (xs.take i)≠[]→
  Goes EN0 (layOwn [b] [(.look (cQ xs),false)]) w0 cs0 50 (RW8 w0 (dropQ p xs)) (layVal [b]) (SM.at (hdW8 xs.length c p (.sl 1 0 (dropQ p (xs.take i)).length none) i) 6 [lkE (cQ xs),rowsQ (cQ (dropQ p (xs.take i)))])
 | 0,i,hj,hne=>by
  rw [List.take_of_length_le (by omega)] at hne ⊢
  refine ends_sq (j:=1) KN0 none1' (n:=60) (o:=ff [0] false) ⟨?_⟩ fun w' y hB hy=>⟨hB,.inr ⟨hne,y,rfl,hy⟩⟩
  rw [we6]
  simp only [Owed,cQ_closed,and_self,and_true,true_and]
  exact decide_eq_false (by omega)
 | j+1,i,hj,hne=>by
  have hi:i<xs.length:=by omega
  have hsn:=dropQ_snoc p hi
  have hxi:xs[i]?=some xs[i]:=List.getElem?_eq_getElem hi
  have t1:decide ((i:Int)<(xs.length:Int))=true:=decide_eq_true (by omega)
  have r1:=in_range hi
  have ws:=wrap_succ (k:=i) (by omega)
  have rc:=cQ_cell0 hxi
  have ra:=cQ_at hxi
  have hbl:(dropQ p (xs.take i)).length≤1000:=Nat.le_trans (dropQ_len _ _) (by rw [List.length_take];omega)
  cases hq:isQ p xs[i]
  ·have hq':(xs[i].toList==p.toList)=false:=by rw [tlB,tlB];exact hq
   rw [hq,if_neg (by decide)] at hsn
   have nx:=loopW82 hl j (i+1) (by omega) (by rw [hsn];simp)
   rw [hsn,List.length_append,show ([xs[i]]:List ByteArray).length=1 from rfl] at nx
   refine Goes.reach KN0 (k:=2) (n:=60) (o:=(ff [0] true++[(2,.cells [.v (.string xs[i])])]++ff [3] true++[(5,.cells (lC xs[i])),(6,.app (cQ (dropQ p (xs.take i))) (lC xs[i]))])) (ren:=[(0,0),(1,3)]) (eqs:=[0,1]) ?_ (by kernel_rfl) (fun i b h=>by rw [lay1' h];rfl) nx
   rw [we4]
   simp only [Owed,Int.toNat_natCast,t1,r1,rc,ra,hq',ws,lC_len,cQ_closed,cQ_flat,cQ_app,cQ_one,cQ_len,List.all_append,Bool.not_false,and_self,and_true,true_and]
   repeat' apply And.intro
   all_goals first | rfl | omega | exact List.take_of_length_le (by rw [cQ_len];exact Nat.le_refl _) | exact lC_closed _ | skip
  ·have hq':(xs[i].toList==p.toList)=true:=by rw [tlB,tlB];exact hq
   rw [hq,if_pos rfl,List.append_nil] at hsn
   have nx:=loopW82 hl j (i+1) (by omega) (by rw [hsn];exact hne)
   rw [hsn] at nx
   refine Goes.reach KN0 (k:=2) (n:=60) (o:=(ff [0] true++[(2,.cells [.v (.string xs[i])])]++ff [3] false)) (ren:=[(0,0),(1,1)]) (eqs:=[0,1]) ?_ (by kernel_rfl) (fun i b h=>by rw [lay1' h];rfl) nx
   rw [we3]
   simp only [Owed,Int.toNat_natCast,t1,r1,rc,hq',ws,cQ_closed,Bool.not_true,and_self]
theorem loopW81 (hl:xs.length≤1000):∀ (j i:Nat),i+j=xs.length→dropQ p (xs.take i)=[]→
  Goes EN0 (layOwn [b] [(.look (cQ xs),false)]) w0 cs0 50 (RW8 w0 (dropQ p xs)) (layVal [b]) (SM.at (hdW8 xs.length c p nilE i) 6 [lkE (cQ xs)])
 | 0,i,hj,hn=>by
  rw [List.take_of_length_le (by omega)] at hn
  refine goes_due KN0 none1' (n:=60) (o:=ff [0] false) (v:=.slice none 0 0) ⟨?_⟩ fun w' hw=>⟨hw,.inl ⟨hn,rfl⟩⟩
  rw [we5]
  simp only [Owed,and_self,and_true,true_and]
  exact decide_eq_false (by omega)
 | j+1,i,hj,hn=>by
  have hi:i<xs.length:=by omega
  have hsn:=dropQ_snoc p hi
  have hxi:xs[i]?=some xs[i]:=List.getElem?_eq_getElem hi
  have t1:decide ((i:Int)<(xs.length:Int))=true:=decide_eq_true (by omega)
  have r1:=in_range hi
  have ws:=wrap_succ (k:=i) (by omega)
  have rc:=cQ_cell0 hxi
  have ra:=cQ_at hxi
  cases hq:isQ p xs[i]
  ·have hq':(xs[i].toList==p.toList)=false:=by rw [tlB,tlB];exact hq
   rw [hq,if_neg (by decide),hn,List.nil_append] at hsn
   have nx:=loopW82 (w0:=w0) (cs0:=cs0) (b:=b) (c:=c) (p:=p) hl j (i+1) (by omega) (by rw [hsn];simp)
   rw [hsn,show ([xs[i]]:List ByteArray).length=1 from rfl] at nx
   refine Goes.reach KN0 (k:=2) (n:=60) (o:=(ff [0] true++[(2,.cells [.v (.string xs[i])])]++ff [3] true++[(5,.cells (lC xs[i]))])) (ren:=[(0,0),(1,2)]) (eqs:=[0,1]) ?_ (by kernel_rfl) (fun i b h=>by rw [lay1' h];rfl) nx
   rw [we2]
   simp only [Owed,Int.toNat_natCast,t1,r1,rc,ra,hq',ws,lC_len,cQ_closed,cQ_one,Bool.not_false,and_self,and_true,true_and]
   repeat' apply And.intro
   all_goals first | rfl | omega | exact lC_closed _ | skip
  ·have hq':(xs[i].toList==p.toList)=true:=by rw [tlB,tlB];exact hq
   rw [hq,if_pos rfl,List.append_nil] at hsn
   have nx:=loopW81 hl j (i+1) (by omega) (by rw [hsn];exact hn)
   refine Goes.reach KN0 (k:=2) (n:=60) (o:=(ff [0] true++[(2,.cells [.v (.string xs[i])])]++ff [3] false)) (ren:=[(0,0)]) (eqs:=[0]) ?_ (by kernel_rfl) (fun i b h=>by rw [lay1' h];rfl) nx
   rw [we1]
   simp only [Owed,Int.toNat_natCast,t1,r1,rc,hq',ws,cQ_closed,nilE,Bool.not_true,and_self]
end
def without8S:SlG:=fun args sh=>match args with
 | [.sl i 0 n none,.v (.string p)]=>match sh.look i with
  | some (.row ys _ _ _,_)=>some (vQ (dropQ p (leavesOf ys n)),(dropQ p (leavesOf ys n)).length,3,54,none,HoldsQ ys n (leavesOf ys n)∧dropQ p (leavesOf ys n)≠[])
  | _=>none
 | _=>none
def without8N:PlG:=fun args sh=>match args with
 | [.sl i 0 n none,.v (.string p)]=>match sh.look i with
  | some (.row ys _ _ _,_)=>some (.slice none 0 0,HoldsQ ys n (leavesOf ys n)∧dropQ p (leavesOf ys n)=[])
  | _=>none
 | _=>none
theorem without8_calls {ν:Val} {M:Own} {w0 w:World} {sh:SH} (hr:HR ν M w0 sh w) {i n:Nat} {ys:List SV} {e:TypeId} {fz:Nat × Nat} {x:Option Nat} {mk:Bool} {p:ByteArray} {xs:List ByteArray} (hl:sh.look i=some (.row ys e fz x,mk)) (h:HoldsQ ys n xs) {a:List Value}
  (ha:VRL ν [.sl i 0 n none,.v (.string p)] a):Calls Tryz.prog 50 a.toArray w (RW8 w (dropQ p xs)):=by
 obtain ⟨rfl,rfl,hfew⟩:=h
 obtain ⟨y1,as1,rfl,q1,ha2⟩:=ha.cons_inv
 obtain ⟨y2,as2,rfl,q2,ha3⟩:=ha2.cons_inv
 obtain rfl:=ha3.nil_inv
 obtain rfl:=VR.v_iff.1 q2
 obtain ⟨bb,hbb,hle,rfl⟩:=VR.sl_iff.1 q1
 refine calls_row (E:=EN0) rfl rfl hr hl (cQ_closed xs) (args':=fun c=>[.sl 0 0 xs.length (some c),.v (.string p)]) (S0:=fun c=>entW8 (cQ xs) xs.length c p) (fun b hb=>?_) (fun c=>by kernel_rfl) fun b cs0=>?_
 ·rw [hbb] at hb;cases hb
  have hle':xs.length≤bb.2:=hle
  exact VRL.cons (VR.sl_iff.2 ⟨bb,rfl,hle',rfl⟩) (VRL.cons (VR.v_iff.2 rfl) VRL.nil)
 ·have nx:=loopW81 (w0:=w) (cs0:=cs0) (b:=b) (c:=b.2) (p:=p) (xs:=xs) hfew xs.length 0 (by omega) rfl
  refine Goes.reach KN0 (k:=2) (n:=60) (o:=[(1000,.b true)]) (ren:=[(0,0)]) (eqs:=[0]) (F:=hdW8 xs.length b.2 p nilE 0) (d:=6) (l:=[lkE (cQ xs)]) ?_ (by kernel_rfl) (fun i b h=>by rw [lay1' h];rfl) nx
  rw [we0]
  simp only [Owed,cQ_closed,and_self]
noncomputable def entW8n (p:ByteArray):SM:=(enterS EN0 50 [.v (.slice none 0 0),.v (.string p)] (memOf 6 0 0 [])).getD noSM
theorem w8n (p:ByteArray) (v:Value):endsV EN0 50 60 (entW8n p) [(1000,.b true)] v=[
 Value.slice none (0:Nat) (0:Nat)=v]:=by kernel_rfl
def without8P:PlG:=fun args sh=>match args with
 | [.v u,.v (.string p)]=>some (.slice none 0 0,u=.slice none 0 0)
 | _=>without8N args sh
def lPq:List (FuncId × Sum):=[(50,brSum (slSumG without8S) (plSumG without8P)),(51,pureSum cmpPS)]
noncomputable def EPq:Env:={ EP [] [] with sums:=fun f=>lPq.lookup f }
def rowRq (l:List SV):Option (SO × Bool):=some (.row l 54 (0,0) (some 3),false)
def leafV:SV:=.v (.agg #[.int .i64 2,.slice none 0 0])
def boxL:Option (SO × Bool):=some (.row [.v (.int .i64 2),.v (.slice none 0 0)] 44 (0,0) none,true)
noncomputable def entP8 (l:List SV) (n:Nat) (q:ByteArray):SM:=(enterS EPq 27 [.sl 0 0 n none,.v (.string q),leafV] (memOf 6 1 0 [rowRq l])).getD noSM
noncomputable def entP8n (q:ByteArray):SM:=(enterS EPq 27 [.v (.slice none 0 0),.v (.string q),leafV] (memOf 6 0 0 [])).getD noSM
noncomputable def todoP8:List SI:=todoL EPq 2 100 (entP8 [] 0 ⟨#[]⟩) ([(1000,.b true)]++ff [0] true)
noncomputable def hdP8 (k:Nat) (q:ByteArray) (x:SV) (d:Bool) (i:Int):SF:={ fn:=27,tm:=tmOf 57 6 ([.sl 2 0 k none,.v (.string q),.junk,.junk,.junk,.ptr 1 0,.junk,x,.v (.bool d),.v (.int .i64 i)]++List.replicate 47 .junk),todo:=todoP8,defers:=[],ret:=false,kind:=.normal,ro:=none }
def objQ0 (l m:List SV):List (Option (SO × Bool)):=[rowRq l,boxL,rowsQ m]
def objQ1 (l m o:List SV):List (Option (SO × Bool)):=[rowRq l,boxL,rowsQ m,rowsQ o]
theorem pq0 (l m:List SV) (n k:Nat) (q:ByteArray):reach EPq 2 100 (entP8 l n q) ([(1000,.b true)]++ff [0] true) [(0,0),(1,1),(2,2)] [0,2] (hdP8 k q nilE false 0) 6 (objQ0 l m)=[
 (0:Nat)=(0:Nat)∧(dropQ q (leavesOf l n)).length=k∧(none:Option Nat)=none,
 Value.string q=Value.string q,
 (0:Nat)=(0:Nat),
 Value.slice none (0:Nat) (0:Nat)=Value.slice none (0:Nat) (0:Nat),
 Value.bool false=Value.bool false,
 Value.int IntKind.i64 (0:Int)=Value.int IntKind.i64 (0:Int),
 l=l,
 l.all closedSV=true,
 Value.int IntKind.i64 (2:Int)=Value.int IntKind.i64 (2:Int),
 Value.slice none (0:Nat) (0:Nat)=Value.slice none (0:Nat) (0:Nat),
 List.map SV.v (vQ (dropQ q (leavesOf l n)))=m,
 m.all closedSV=true,
 HoldsQ l n (leavesOf l n)∧dropQ q (leavesOf l n)≠[]]:=by kernel_rfl
theorem pqz (l m : List SV) (n : Nat) (q : ByteArray) : endsO EPq 27 100 (entP8 l n q) ([(1000, .b true)] ++ ff [0] false) (.sl 3 0 1 none) 3 (.row m 54 (0, 0) (some 3)) = [
  (0 : Nat) = (0 : Nat) ∧ (1 : Nat) = (1 : Nat) ∧ (none : Option Nat) = none,
  [] ++
   List.take (3 : Nat)
   (List.drop (0 : Nat)
   (splice
   (List.replicate (1 : Nat)
   (List.map SV.v
   {
   toList :=
   [Value.string { data := { toList := [] : Array UInt8 } : ByteArray },
   Value.int IntKind.i64 (0 : Int), Value.slice none (0 : Nat) (0 : Nat)] :
   Array Value }.toList)).flatten
   (0 : Nat)
   (splice
   (splice
   (List.map SV.v
   {
   toList :=
   [Value.string { data := { toList := [] : Array UInt8 } : ByteArray },
   Value.int IntKind.i64 (0 : Int), Value.slice none (0 : Nat) (0 : Nat)] :
   Array Value }.toList)
   (0 : Nat) [SV.v (Value.string q)])
   (1 : Nat)
   (List.take (2 : Nat)
   (List.drop (0 : Nat)
   (List.map SV.v
   { toList := [Value.int IntKind.i64 (2 : Int), Value.slice none (0 : Nat) (0 : Nat)] :
   Array Value }.toList)))))) =
   m,
  m.all closedSV = true,
  HoldsQ l n (leavesOf l n) ∧ dropQ q (leavesOf l n) = []] := by kernel_rfl
theorem pqn (m : List SV) (q : ByteArray) : endsO EPq 27 100 (entP8n q) ([(1000, .b true)] ++ ff [0] false) (.sl 2 0 1 none) 2 (.row m 54 (0, 0) (some 3)) = [
  (0 : Nat) = (0 : Nat) ∧ (1 : Nat) = (1 : Nat) ∧ (none : Option Nat) = none,
  [] ++
   List.take (3 : Nat)
   (List.drop (0 : Nat)
   (splice
   (List.replicate (1 : Nat)
   (List.map SV.v
   {
   toList :=
   [Value.string { data := { toList := [] : Array UInt8 } : ByteArray },
   Value.int IntKind.i64 (0 : Int), Value.slice none (0 : Nat) (0 : Nat)] :
   Array Value }.toList)).flatten
   (0 : Nat)
   (splice
   (splice
   (List.map SV.v
   {
   toList :=
   [Value.string { data := { toList := [] : Array UInt8 } : ByteArray },
   Value.int IntKind.i64 (0 : Int), Value.slice none (0 : Nat) (0 : Nat)] :
   Array Value }.toList)
   (0 : Nat) [SV.v (Value.string q)])
   (1 : Nat)
   (List.take (2 : Nat)
   (List.drop (0 : Nat)
   (List.map SV.v
   { toList := [Value.int IntKind.i64 (2 : Int), Value.slice none (0 : Nat) (0 : Nat)] :
   Array Value }.toList)))))) =
   m,
  m.all closedSV = true,
  Value.slice none (0 : Nat) (0 : Nat) = Value.slice none (0 : Nat) (0 : Nat)] := by kernel_rfl
theorem pq1 (l m o o' w w2 : List SV) (k r : Nat) (q e : ByteArray) (i i' : Int) : reach EPq 2 100 (SM.at (hdP8 k q nilE false i) 6 (objQ0 l m)) (ff [0] true ++ [(7, .cells [.v (.string e)]), (13, .b false), (15, .cells (lC e))]) [(0, 0), (1, 1), (2, 2), (3, 4)] [0, 2, 3] (hdP8 k q (.sl 3 0 1 none) false i') 6 (objQ1 l m o') = [
  (0 : Nat) = (0 : Nat) ∧ k = k ∧ (none : Option Nat) = none,
  Value.string q = Value.string q,
  (0 : Nat) = (0 : Nat),
  (0 : Nat) = (0 : Nat) ∧ (1 : Nat) = (1 : Nat) ∧ (none : Option Nat) = none,
  Value.bool false = Value.bool false,
  Value.int IntKind.i64 (IntKind.i64.wrap (i + (1 : Int))) = Value.int IntKind.i64 i',
  l = l,
  l.all closedSV = true,
  Value.int IntKind.i64 (2 : Int) = Value.int IntKind.i64 (2 : Int),
  Value.slice none (0 : Nat) (0 : Nat) = Value.slice none (0 : Nat) (0 : Nat),
  m = m,
  m.all closedSV = true,
  [] ++
   List.take (3 : Nat)
   (List.drop (0 : Nat)
   (splice
   (List.replicate (1 : Nat)
   (List.map SV.v
   {
   toList :=
   [Value.string { data := { toList := [] : Array UInt8 } : ByteArray },
   Value.int IntKind.i64 (0 : Int), Value.slice none (0 : Nat) (0 : Nat)] :
   Array Value }.toList)).flatten
   (0 : Nat) (lC e))) =
   o',
  o'.all closedSV = true,
  List.take (3 : Nat) (List.drop ((0 : Nat) + i.toNat * (3 : Nat)) m) = lC e ∧ (lC e).length = (3 : Nat),
  inRange i k = true,
  decide (cmpN e q > (0 : Int)) = false,
  e.size ≤ (1000000000 : Nat) ∧ q.size ≤ (1000000000 : Nat),
  m[(0 : Nat) + i.toNat * (3 : Nat) + (0 : Nat)]? = some (SV.v (Value.string e)),
  inRange i k = true,
  decide (i < (↑k : Int)) = true] := by kernel_rfl
theorem pq2 (l m o o' w w2 : List SV) (k r : Nat) (q e : ByteArray) (i i' : Int) : reach EPq 2 100 (SM.at (hdP8 k q (.sl 3 0 r none) false i) 6 (objQ1 l m o)) (ff [0] true ++ [(7, .cells [.v (.string e)]), (13, .b false), (15, .cells (lC e)), (16, .app o w)]) [(0, 0), (1, 1), (2, 2), (3, 5)] [0, 2, 3] (hdP8 k q (.sl 3 0 (r + 1) none) false i') 6 (objQ1 l m o') = [
  (0 : Nat) = (0 : Nat) ∧ k = k ∧ (none : Option Nat) = none,
  Value.string q = Value.string q,
  (0 : Nat) = (0 : Nat),
  (0 : Nat) = (0 : Nat) ∧ r + (1 : Nat) = r + (1 : Nat) ∧ (none : Option Nat) = none,
  Value.bool false = Value.bool false,
  Value.int IntKind.i64 (IntKind.i64.wrap (i + (1 : Int))) = Value.int IntKind.i64 i',
  l = l,
  l.all closedSV = true,
  Value.int IntKind.i64 (2 : Int) = Value.int IntKind.i64 (2 : Int),
  Value.slice none (0 : Nat) (0 : Nat) = Value.slice none (0 : Nat) (0 : Nat),
  m = m,
  m.all closedSV = true,
  o ++ w = o',
  o'.all closedSV = true,
  ((List.take (3 : Nat)
   (List.drop (0 : Nat)
   (splice
   (List.replicate (1 : Nat)
   (List.map SV.v
   {
   toList :=
   [Value.string { data := { toList := [] : Array UInt8 } : ByteArray },
   Value.int IntKind.i64 (0 : Int), Value.slice none (0 : Nat) (0 : Nat)] :
   Array Value }.toList)).flatten
   (0 : Nat) (lC e))) =
   w ∧
   w.length = (1 : Nat) * (3 : Nat)) ∧
   (1 : Nat) ≠ (0 : Nat) ∧ ((2 : Nat) * (r + (1 : Nat)) + (1024 : Nat)) * (48 : Nat) ≤ (140737488355328 : Nat)) ∧
   List.take (r * (3 : Nat)) o = o ∧ o.length = r * (3 : Nat) ∧ w.all SV.flat = true,
  List.take (3 : Nat) (List.drop ((0 : Nat) + i.toNat * (3 : Nat)) m) = lC e ∧ (lC e).length = (3 : Nat),
  inRange i k = true,
  decide (cmpN e q > (0 : Int)) = false,
  e.size ≤ (1000000000 : Nat) ∧ q.size ≤ (1000000000 : Nat),
  m[(0 : Nat) + i.toNat * (3 : Nat) + (0 : Nat)]? = some (SV.v (Value.string e)),
  inRange i k = true,
  decide (i < (↑k : Int)) = true] := by kernel_rfl
theorem pq3 (l m o o' w w2 : List SV) (k r : Nat) (q e : ByteArray) (i i' : Int) : reach EPq 2 100 (SM.at (hdP8 k q nilE false i) 6 (objQ0 l m)) (ff [0] true ++ [(7, .cells [.v (.string e)]), (13, .b true), (16, .cells (lC e))]) [(0, 0), (1, 1), (2, 2), (3, 6)] [0, 2, 3] (hdP8 k q (.sl 3 0 2 none) true i') 6 (objQ1 l m o') = [
  (0 : Nat) = (0 : Nat) ∧ k = k ∧ (none : Option Nat) = none,
  Value.string q = Value.string q,
  (0 : Nat) = (0 : Nat),
  (0 : Nat) = (0 : Nat) ∧ (2 : Nat) = (2 : Nat) ∧ (none : Option Nat) = none,
  Value.bool true = Value.bool true,
  Value.int IntKind.i64 (IntKind.i64.wrap (i + (1 : Int))) = Value.int IntKind.i64 i',
  l = l,
  l.all closedSV = true,
  Value.int IntKind.i64 (2 : Int) = Value.int IntKind.i64 (2 : Int),
  Value.slice none (0 : Nat) (0 : Nat) = Value.slice none (0 : Nat) (0 : Nat),
  m = m,
  m.all closedSV = true,
  List.take (3 : Nat)
   ([] ++
   List.take (3 : Nat)
   (List.drop (0 : Nat)
   (splice
   (List.replicate (1 : Nat)
   (List.map SV.v
   {
   toList :=
   [Value.string { data := { toList := [] : Array UInt8 } : ByteArray },
   Value.int IntKind.i64 (0 : Int), Value.slice none (0 : Nat) (0 : Nat)] :
   Array Value }.toList)).flatten
   (0 : Nat)
   (splice
   (splice
   (List.map SV.v
   {
   toList :=
   [Value.string { data := { toList := [] : Array UInt8 } : ByteArray },
   Value.int IntKind.i64 (0 : Int), Value.slice none (0 : Nat) (0 : Nat)] :
   Array Value }.toList)
   (0 : Nat) [SV.v (Value.string q)])
   (1 : Nat)
   (List.take (2 : Nat)
   (List.drop (0 : Nat)
   [SV.v (Value.int IntKind.i64 (2 : Int)), SV.v (Value.slice none (0 : Nat) (0 : Nat))])))))) ++
   List.take (3 : Nat)
   (List.drop (0 : Nat)
   (splice
   (List.replicate (1 : Nat)
   (List.map SV.v
   {
   toList :=
   [Value.string { data := { toList := [] : Array UInt8 } : ByteArray },
   Value.int IntKind.i64 (0 : Int), Value.slice none (0 : Nat) (0 : Nat)] :
   Array Value }.toList)).flatten
   (0 : Nat) (lC e))) =
   o',
  o'.all closedSV = true,
  List.take (3 : Nat) (List.drop ((0 : Nat) + i.toNat * (3 : Nat)) m) = lC e ∧ (lC e).length = (3 : Nat),
  inRange i k = true,
  decide (cmpN e q > (0 : Int)) = true,
  e.size ≤ (1000000000 : Nat) ∧ q.size ≤ (1000000000 : Nat),
  m[(0 : Nat) + i.toNat * (3 : Nat) + (0 : Nat)]? = some (SV.v (Value.string e)),
  inRange i k = true,
  decide (i < (↑k : Int)) = true] := by kernel_rfl
theorem pq4 (l m o o' w w2 : List SV) (k r : Nat) (q e : ByteArray) (i i' : Int) : reach EPq 2 100 (SM.at (hdP8 k q (.sl 3 0 r none) false i) 6 (objQ1 l m o)) (ff [0] true ++ [(7, .cells [.v (.string e)]), (13, .b true), (14, .app o w), (16, .cells (lC e)), (17, .app (o ++ w) w2)]) [(0, 0), (1, 1), (2, 2), (3, 7)] [0, 2, 3] (hdP8 k q (.sl 3 0 (r + 2) none) true i') 6 (objQ1 l m o') = [
  (0 : Nat) = (0 : Nat) ∧ k = k ∧ (none : Option Nat) = none,
  Value.string q = Value.string q,
  (0 : Nat) = (0 : Nat),
  (0 : Nat) = (0 : Nat) ∧ r + (1 : Nat) + (1 : Nat) = r + (2 : Nat) ∧ (none : Option Nat) = none,
  Value.bool true = Value.bool true,
  Value.int IntKind.i64 (IntKind.i64.wrap (i + (1 : Int))) = Value.int IntKind.i64 i',
  l = l,
  l.all closedSV = true,
  Value.int IntKind.i64 (2 : Int) = Value.int IntKind.i64 (2 : Int),
  Value.slice none (0 : Nat) (0 : Nat) = Value.slice none (0 : Nat) (0 : Nat),
  m = m,
  m.all closedSV = true,
  o ++ w ++ w2 = o',
  o'.all closedSV = true,
  ((List.take (3 : Nat)
   (List.drop (0 : Nat)
   (splice
   (List.replicate (1 : Nat)
   (List.map SV.v
   {
   toList :=
   [Value.string { data := { toList := [] : Array UInt8 } : ByteArray },
   Value.int IntKind.i64 (0 : Int), Value.slice none (0 : Nat) (0 : Nat)] :
   Array Value }.toList)).flatten
   (0 : Nat) (lC e))) =
   w2 ∧
   w2.length = (1 : Nat) * (3 : Nat)) ∧
   (1 : Nat) ≠ (0 : Nat) ∧
   ((2 : Nat) * (r + (1 : Nat) + (1 : Nat)) + (1024 : Nat)) * (48 : Nat) ≤ (140737488355328 : Nat)) ∧
   List.take ((r + (1 : Nat)) * (3 : Nat)) (o ++ w) = o ++ w ∧
   (o ++ w).length = (r + (1 : Nat)) * (3 : Nat) ∧ w2.all SV.flat = true,
  List.take (3 : Nat) (List.drop ((0 : Nat) + i.toNat * (3 : Nat)) m) = lC e ∧ (lC e).length = (3 : Nat),
  inRange i k = true,
  ((List.take (3 : Nat)
   (List.drop (0 : Nat)
   (splice
   (List.replicate (1 : Nat)
   (List.map SV.v
   {
   toList :=
   [Value.string { data := { toList := [] : Array UInt8 } : ByteArray },
   Value.int IntKind.i64 (0 : Int), Value.slice none (0 : Nat) (0 : Nat)] :
   Array Value }.toList)).flatten
   (0 : Nat)
   (splice
   (splice
   (List.map SV.v
   {
   toList :=
   [Value.string { data := { toList := [] : Array UInt8 } : ByteArray },
   Value.int IntKind.i64 (0 : Int), Value.slice none (0 : Nat) (0 : Nat)] :
   Array Value }.toList)
   (0 : Nat) [SV.v (Value.string q)])
   (1 : Nat)
   (List.take (2 : Nat)
   (List.drop (0 : Nat)
   [SV.v (Value.int IntKind.i64 (2 : Int)), SV.v (Value.slice none (0 : Nat) (0 : Nat))]))))) =
   w ∧
   w.length = (1 : Nat) * (3 : Nat)) ∧
   (1 : Nat) ≠ (0 : Nat) ∧ ((2 : Nat) * (r + (1 : Nat)) + (1024 : Nat)) * (48 : Nat) ≤ (140737488355328 : Nat)) ∧
   List.take (r * (3 : Nat)) o = o ∧ o.length = r * (3 : Nat) ∧ w.all SV.flat = true,
  decide (cmpN e q > (0 : Int)) = true,
  e.size ≤ (1000000000 : Nat) ∧ q.size ≤ (1000000000 : Nat),
  m[(0 : Nat) + i.toNat * (3 : Nat) + (0 : Nat)]? = some (SV.v (Value.string e)),
  inRange i k = true,
  decide (i < (↑k : Int)) = true] := by kernel_rfl
theorem pq5 (l m o o' w w2 : List SV) (k r : Nat) (q e : ByteArray) (i i' : Int) : reach EPq 2 100 (SM.at (hdP8 k q (.sl 3 0 r none) true i) 6 (objQ1 l m o)) (ff [0] true ++ [(12, .cells (lC e)), (13, .app o w)]) [(0, 0), (1, 1), (2, 2), (3, 5)] [0, 2, 3] (hdP8 k q (.sl 3 0 (r + 1) none) true i') 6 (objQ1 l m o') = [
  (0 : Nat) = (0 : Nat) ∧ k = k ∧ (none : Option Nat) = none,
  Value.string q = Value.string q,
  (0 : Nat) = (0 : Nat),
  (0 : Nat) = (0 : Nat) ∧ r + (1 : Nat) = r + (1 : Nat) ∧ (none : Option Nat) = none,
  Value.bool true = Value.bool true,
  Value.int IntKind.i64 (IntKind.i64.wrap (i + (1 : Int))) = Value.int IntKind.i64 i',
  l = l,
  l.all closedSV = true,
  Value.int IntKind.i64 (2 : Int) = Value.int IntKind.i64 (2 : Int),
  Value.slice none (0 : Nat) (0 : Nat) = Value.slice none (0 : Nat) (0 : Nat),
  m = m,
  m.all closedSV = true,
  o ++ w = o',
  o'.all closedSV = true,
  ((List.take (3 : Nat)
   (List.drop (0 : Nat)
   (splice
   (List.replicate (1 : Nat)
   (List.map SV.v
   {
   toList :=
   [Value.string { data := { toList := [] : Array UInt8 } : ByteArray },
   Value.int IntKind.i64 (0 : Int), Value.slice none (0 : Nat) (0 : Nat)] :
   Array Value }.toList)).flatten
   (0 : Nat) (lC e))) =
   w ∧
   w.length = (1 : Nat) * (3 : Nat)) ∧
   (1 : Nat) ≠ (0 : Nat) ∧ ((2 : Nat) * (r + (1 : Nat)) + (1024 : Nat)) * (48 : Nat) ≤ (140737488355328 : Nat)) ∧
   List.take (r * (3 : Nat)) o = o ∧ o.length = r * (3 : Nat) ∧ w.all SV.flat = true,
  List.take (3 : Nat) (List.drop ((0 : Nat) + i.toNat * (3 : Nat)) m) = lC e ∧ (lC e).length = (3 : Nat),
  inRange i k = true,
  decide (i < (↑k : Int)) = true] := by kernel_rfl
theorem pq7 (l m o o' w w2 : List SV) (k r : Nat) (q e : ByteArray) (i i' : Int) : endsO EPq 27 100 (SM.at (hdP8 k q (.sl 3 0 r none) false i) 6 (objQ1 l m o)) (ff [0] false ++ [(2, .app o w)]) (.sl 5 0 (r + 1) none) 5 (.row o' 54 (0, 0) (some 3)) = [
  (0 : Nat) = (0 : Nat) ∧ r + (1 : Nat) = r + (1 : Nat) ∧ (none : Option Nat) = none,
  o ++ w = o',
  o'.all closedSV = true,
  ((List.take (3 : Nat)
   (List.drop (0 : Nat)
   (splice
   (List.replicate (1 : Nat)
   (List.map SV.v
   {
   toList :=
   [Value.string { data := { toList := [] : Array UInt8 } : ByteArray },
   Value.int IntKind.i64 (0 : Int), Value.slice none (0 : Nat) (0 : Nat)] :
   Array Value }.toList)).flatten
   (0 : Nat)
   (splice
   (splice
   (List.map SV.v
   {
   toList :=
   [Value.string { data := { toList := [] : Array UInt8 } : ByteArray },
   Value.int IntKind.i64 (0 : Int), Value.slice none (0 : Nat) (0 : Nat)] :
   Array Value }.toList)
   (0 : Nat) [SV.v (Value.string q)])
   (1 : Nat)
   (List.take (2 : Nat)
   (List.drop (0 : Nat)
   [SV.v (Value.int IntKind.i64 (2 : Int)), SV.v (Value.slice none (0 : Nat) (0 : Nat))]))))) =
   w ∧
   w.length = (1 : Nat) * (3 : Nat)) ∧
   (1 : Nat) ≠ (0 : Nat) ∧ ((2 : Nat) * (r + (1 : Nat)) + (1024 : Nat)) * (48 : Nat) ≤ (140737488355328 : Nat)) ∧
   List.take (r * (3 : Nat)) o = o ∧ o.length = r * (3 : Nat) ∧ w.all SV.flat = true,
  decide (i < (↑k : Int)) = false] := by kernel_rfl
theorem pq8 (l m o o' w w2:List SV) (k r:Nat) (q e:ByteArray) (i i':Int):endsO EPq 27 100 (SM.at (hdP8 k q (.sl 3 0 r none) true i) 6 (objQ1 l m o)) (ff [0] false) (.sl 3 0 r none) 3 (.row o' 54 (0,0) (some 3))=[
 (0:Nat)=(0:Nat)∧r=r∧(none:Option Nat)=none,
 o=o',
 o'.all closedSV=true,
 decide (i<(↑k:Int))=false]:=by kernel_rfl
def insQ (x:ByteArray):List ByteArray→List ByteArray
 | []=>[x]
 | e::l=>if cmpN e x>0 then x::e::l else e::insQ x l
theorem insQ_len (x:ByteArray):∀ l:List ByteArray,(insQ x l).length=l.length+1
 | []=>rfl
 | e::l=>by
  unfold insQ
  split
  ·rfl
  ·rw [List.length_cons,insQ_len x l,List.length_cons]
def RQ (w0:World) (xs:List ByteArray) (e:Ending) (w':World):Prop:=Below w0.heap.size w0 w'∧∃ y,e=.returned y∧NewSl w0 w' y (vQ xs) xs.length 3 54
theorem w8nil (p:ByteArray) (w:World):Calls Tryz.prog 50 #[.slice none 0 0,.string p] w fun e w'=>Below w.heap.size w w'∧e=.returned (.slice none 0 0):=by
 refine (calls_bareR (E:=EN0) rfl rfl (args:=[.v (.slice none 0 0),.v (.string p)]) (a:=[.slice none 0 0,.string p]) (S0:=entW8n p) (by kernel_rfl) (VRL.cons (VR.v_iff.2 rfl) (VRL.cons (VR.v_iff.2 rfl) VRL.nil)) fun cs0=>?_)
 refine Goes.endsV KN0 (n:=60) (o:=[(1000,.b true)]) (v:=.slice none 0 0) ?_ fun ν' M1 w1 s' w' _ hB' hr=>⟨below_of not_laid hB' hr,rfl⟩
 rw [w8n]
 simp only [Owed,and_self,and_true,true_and]
theorem without8_sum {X:World→Prop}:SumOK Tryz.prog X (50,brSum (slSumG without8S) (plSumG without8P)):=by
 refine SumOK.br (slSumG_ok ⟨_,Tryz.func50,by kernel_rfl,by kernel_rfl⟩ fun args sh ys n C elem ex p h hp ν M w0 w a hr hX ha=>?_) (plSumG_ok ⟨_,Tryz.func50,by kernel_rfl,by kernel_rfl⟩ fun args sh v p h hp ν M w0 w a hr hX ha=>?_)
 ·dsimp only [without8S] at h
  split at h
  ·rename_i i n p
   split at h
   ·rename_i zs e1 z1 x1 m1 hl
    cases h
    refine (without8_calls hr hl hp.1 ha).mono fun e w' ⟨hB,h⟩=>⟨hB,?_⟩
    rcases h with ⟨h1,_⟩ | ⟨_,y,h2,h3⟩
    ·exact absurd h1 hp.2
    ·exact ⟨y,h2,h3⟩
   ·cases h
  ·cases h
 ·dsimp only [without8P] at h
  split at h
  ·rename_i u p
   cases h
   subst hp
   obtain ⟨y1,as1,rfl,q1,ha2⟩:=ha.cons_inv
   obtain ⟨y2,as2,rfl,q2,ha3⟩:=ha2.cons_inv
   obtain rfl:=ha3.nil_inv
   obtain rfl:=VR.v_iff.1 q1
   obtain rfl:=VR.v_iff.1 q2
   exact w8nil p w
  ·dsimp only [without8N] at h
   split at h
   ·rename_i i n p
    split at h
    ·rename_i zs e1 z1 x1 m1 hl
     cases h
     refine (without8_calls hr hl hp.1 ha).mono fun e w' ⟨hB,h⟩=>⟨hB,?_⟩
     rcases h with ⟨_,h2⟩ | ⟨h1,_⟩
     ·exact h2
     ·exact absurd hp.2 h1
    ·cases h
   ·cases h
theorem KPq {M:Own} {w0:World}:Facts EPq M w0:=
 Facts.of' (Checked.mixed Tryz.checked) (by kernel_rfl) (ExtOK.of extL rfl extRows) (SumsOK.list (X:=fun _=>True) (l:=lPq) rfl (fun r h=>by
  simp only [lPq,List.mem_cons,List.not_mem_nil,or_false] at h
  rcases h with rfl | rfl
  ·exact without8_sum
  ·exact SumOK.pure (r:=(51,cmpPS)) rcmp_ok) fun ν s w hr _=>trivial) (fun f g h=>by cases h)
section
variable {w0:World} {cs0:List Frame} {l0 xs:List ByteArray} {x:ByteArray} {M:Own} {ν:Val}
theorem loopQ3 (hM:∀ z,¬ M z) (hν:∀ i b,ν i=some b→i=0) (hl:xs.length≤1000):∀ (j i:Nat),i+j=xs.length→∀ (out:List ByteArray),out.length≤i+1→
  Goes EPq M w0 cs0 27 (RQ w0 (out++xs.drop i)) ν (SM.at (hdP8 xs.length x (.sl 3 0 out.length none) true i) 6 (objQ1 (cQ l0) (cQ xs) (cQ out)))
 | 0,i,hj,out,ho=>by
  rw [List.drop_eq_nil_of_le (by omega),List.append_nil]
  refine ends_sq (j:=3) KPq hM (n:=100) (o:=ff [0] false) ⟨?_⟩ fun w' y hB hy=>⟨hB,y,rfl,hy⟩
  rw [pq8 (w:=[]) (w2:=[]) (e:=x) (i':=0)]
  simp only [Owed,cQ_closed,and_self,and_true,true_and]
  exact decide_eq_false (by omega)
 | j+1,i,hj,out,ho=>by
  have hi:i<xs.length:=by omega
  have hxi:xs[i]?=some xs[i]:=List.getElem?_eq_getElem hi
  have t1:decide ((i:Int)<(xs.length:Int))=true:=decide_eq_true (by omega)
  have r1:=in_range hi
  have ws:=wrap_succ (k:=i) (by omega)
  have ra:=cQ_at hxi
  have nx:=loopQ3 hM hν hl j (i+1) (by omega) (out++[xs[i]]) (by rw [List.length_append];simp;omega)
  rw [List.append_assoc,List.singleton_append,← List.drop_eq_getElem_cons hi,List.length_append,show ([xs[i]]:List ByteArray).length=1 from rfl] at nx
  refine Goes.reach KPq (k:=2) (n:=100) (o:=(ff [0] true++[(12,.cells (lC xs[i])),(13,.app (cQ out) (lC xs[i]))])) (ren:=[(0,0),(1,1),(2,2),(3,5)]) (eqs:=[0,2,3]) ?_ (by kernel_rfl) (fun i b h=>by rw [hν i b h];rfl) nx
  rw [pq5 (w2:=[])]
  simp only [Owed,Int.toNat_natCast,t1,r1,ra,ws,lC_len,cQ_closed,cQ_flat,cQ_app,cQ_one,cQ_len,List.all_append,and_self,and_true,true_and]
  repeat' apply And.intro
  all_goals first | rfl | omega | exact List.take_of_length_le (by rw [cQ_len];exact Nat.le_refl _) | exact lC_closed _ | skip
theorem loopQ2 (hM:∀ z,¬ M z) (hν:∀ i b,ν i=some b→i=0) (hl:xs.length≤1000) (hp:x.size≤1000000000) (hs:∀ e∈xs,e.size≤1000000000):∀ (j i:Nat),i+j=xs.length→0<i→
  Goes EPq M w0 cs0 27 (RQ w0 (xs.take i++insQ x (xs.drop i))) ν (SM.at (hdP8 xs.length x (.sl 3 0 (xs.take i).length none) false i) 6 (objQ1 (cQ l0) (cQ xs) (cQ (xs.take i))))
 | 0,i,hj,h0=>by
  have hlen:(xs.take i).length=i:=by rw [List.length_take];omega
  rw [List.drop_eq_nil_of_le (by omega),show insQ x []=[x] from rfl]
  refine ends_sq (j:=5) KPq hM (n:=100) (o:=(ff [0] false++[(2,.app (cQ (xs.take i)) (lC x))])) ⟨?_⟩ fun w' y hB hy=>⟨hB,y,rfl,hy⟩
  rw [List.length_append,show ([x]:List ByteArray).length=1 from rfl,pq7 (w2:=[]) (e:=x) (i':=0)]
  simp only [Owed,lC_len,cQ_closed,cQ_flat,cQ_app,cQ_one,cQ_len,hlen,List.all_append,and_self,and_true,true_and]
  repeat' apply And.intro
  all_goals first | rfl | omega | exact List.take_of_length_le (by rw [cQ_len,hlen];exact Nat.le_refl _) | exact lC_closed _ | exact decide_eq_false (by omega) | skip
 | j+1,i,hj,h0=>by
  have hi:i<xs.length:=by omega
  have hlen:(xs.take i).length=i:=by rw [List.length_take];omega
  have hxi:xs[i]?=some xs[i]:=List.getElem?_eq_getElem hi
  have t1:decide ((i:Int)<(xs.length:Int))=true:=decide_eq_true (by omega)
  have r1:=in_range hi
  have ws:=wrap_succ (k:=i) (by omega)
  have ra:=cQ_at hxi
  have rc:=cQ_cell0 hxi
  have z1:=hs _ (List.getElem_mem hi)
  have hd:=List.drop_eq_getElem_cons hi
  have ht:=List.take_succ_eq_append_getElem hi
  by_cases hc:cmpN xs[i] x>0
  ·have tc:=decide_eq_true hc
   have nx:=loopQ3 (w0:=w0) (cs0:=cs0) (x:=x) (l0:=l0) hM hν hl j (i+1) (by omega) (xs.take i++[x]++[xs[i]]) (by rw [List.length_append,List.length_append,hlen];simp)
   have e1:xs.take i++[x]++[xs[i]]++xs.drop (i+1)=xs.take i++insQ x (xs.drop i):=by
    rw [hd];unfold insQ;rw [if_pos hc];simp
   rw [e1,List.length_append,List.length_append,show ([x]:List ByteArray).length=1 from rfl,show ([xs[i]]:List ByteArray).length=1 from rfl] at nx
   refine Goes.reach KPq (k:=2) (n:=100) (o:=(ff [0] true++[(7,.cells [.v (.string xs[i])]),(13,.b true),(14,.app (cQ (xs.take i)) (lC x)),(16,.cells (lC xs[i])),(17,.app (cQ (xs.take i)++lC x) (lC xs[i]))])) (ren:=[(0,0),(1,1),(2,2),(3,7)]) (eqs:=[0,2,3]) ?_ (by kernel_rfl) (fun i b h=>by rw [hν i b h];rfl) nx
   rw [show (xs.take i).length+1+1=(xs.take i).length+2 from rfl,pq4]
   simp only [Owed,Int.toNat_natCast,t1,r1,ra,rc,ws,tc,z1,hp,lC_len,cQ_closed,cQ_flat,cQ_app,cQ_one,cQ_len,hlen,List.all_append,List.length_append,and_self,and_true,true_and]
   repeat' apply And.intro
   all_goals first | rfl | omega | exact List.take_of_length_le (by rw [cQ_len,hlen];exact Nat.le_refl _) | exact List.take_of_length_le (by rw [List.length_append,cQ_len,hlen,lC_len];omega) | exact lC_closed _ | skip
  ·have tc:=decide_eq_false hc
   have nx:=loopQ2 hM hν hl hp hs j (i+1) (by omega) (by omega)
   have e1:xs.take (i+1)++insQ x (xs.drop (i+1))=xs.take i++insQ x (xs.drop i):=by
    rw [hd,ht];conv=>rhs;unfold insQ
    rw [if_neg hc,List.append_assoc];rfl
   rw [e1,ht,List.length_append,show ([xs[i]]:List ByteArray).length=1 from rfl] at nx
   refine Goes.reach KPq (k:=2) (n:=100) (o:=(ff [0] true++[(7,.cells [.v (.string xs[i])]),(13,.b false),(15,.cells (lC xs[i])),(16,.app (cQ (xs.take i)) (lC xs[i]))])) (ren:=[(0,0),(1,1),(2,2),(3,5)]) (eqs:=[0,2,3]) ?_ (by kernel_rfl) (fun i b h=>by rw [hν i b h];rfl) nx
   rw [pq2 (w2:=[])]
   simp only [Owed,Int.toNat_natCast,t1,r1,ra,rc,ws,tc,z1,hp,lC_len,cQ_closed,cQ_flat,cQ_app,cQ_one,cQ_len,hlen,List.all_append,and_self,and_true,true_and]
   repeat' apply And.intro
   all_goals first | rfl | omega | exact List.take_of_length_le (by rw [cQ_len,hlen];exact Nat.le_refl _) | exact lC_closed _ | skip
theorem firstQ (hM:∀ z,¬ M z) (hν:∀ i b,ν i=some b→i=0) (hl:xs.length≤1000) (hp:x.size≤1000000000) (hs:∀ e∈xs,e.size≤1000000000) (h0:0<xs.length):
  Goes EPq M w0 cs0 27 (RQ w0 (insQ x xs)) ν (SM.at (hdP8 xs.length x nilE false (0:Nat)) 6 (objQ0 (cQ l0) (cQ xs))):=by
 have hxi:xs[0]?=some xs[0]:=List.getElem?_eq_getElem h0
 have t1:decide (((0:Nat):Int)<(xs.length:Int))=true:=decide_eq_true (by omega)
 have r1:=in_range h0
 have ws:=wrap_succ (k:=0) (by omega)
 have ra:=cQ_at hxi
 have rc:=cQ_cell0 hxi
 have z1:=hs _ (List.getElem_mem h0)
 have hd:=List.drop_eq_getElem_cons h0
 rw [List.drop_zero] at hd
 have ht:=List.take_succ_eq_append_getElem h0
 rw [List.take_zero,List.nil_append] at ht
 by_cases hc:cmpN xs[0] x>0
 ·have tc:=decide_eq_true hc
  have nx:=loopQ3 (w0:=w0) (cs0:=cs0) (x:=x) (l0:=l0) hM hν hl (xs.length - 1) (0+1) (by omega) ([x]++[xs[0]]) (by simp)
  have e1:[x]++[xs[0]]++xs.drop (0+1)=insQ x xs:=by
   conv=>rhs;rw [hd]
   unfold insQ;rw [if_pos hc];simp
  rw [e1,show (([x]:List ByteArray)++[xs[0]]).length=2 from rfl] at nx
  refine Goes.reach KPq (k:=2) (n:=100) (o:=(ff [0] true++[(7,.cells [.v (.string xs[0])]),(13,.b true),(16,.cells (lC xs[0]))])) (ren:=[(0,0),(1,1),(2,2),(3,6)]) (eqs:=[0,2,3]) ?_ (by kernel_rfl) (fun i b h=>by rw [hν i b h];rfl) nx
  rw [pq3 (o:=[]) (w:=[]) (w2:=[]) (r:=0)]
  simp only [Owed,Int.toNat_natCast,t1,r1,ra,rc,ws,tc,z1,hp,lC_len,cQ_closed,cQ_app,cQ_one,and_self,and_true,true_and]
  repeat' apply And.intro
  all_goals first | rfl | omega | exact lC_closed _ | (simp [lC_closed,List.all_append];done) | skip
 ·have tc:=decide_eq_false hc
  have nx:=loopQ2 (w0:=w0) (cs0:=cs0) (x:=x) (l0:=l0) hM hν hl hp hs (xs.length - 1) (0+1) (by omega) (by omega)
  have e1:xs.take (0+1)++insQ x (xs.drop (0+1))=insQ x xs:=by
   rw [ht]
   conv=>rhs;rw [hd];unfold insQ
   rw [if_neg hc];rfl
  rw [e1,ht,show ([xs[0]]:List ByteArray).length=1 from rfl] at nx
  refine Goes.reach KPq (k:=2) (n:=100) (o:=(ff [0] true++[(7,.cells [.v (.string xs[0])]),(13,.b false),(15,.cells (lC xs[0]))])) (ren:=[(0,0),(1,1),(2,2),(3,4)]) (eqs:=[0,2,3]) ?_ (by kernel_rfl) (fun i b h=>by rw [hν i b h];rfl) nx
  rw [pq1 (o:=[]) (w:=[]) (w2:=[]) (r:=0)]
  simp only [Owed,Int.toNat_natCast,t1,r1,ra,rc,ws,tc,z1,hp,lC_len,cQ_closed,cQ_one,and_self,and_true,true_and]
  repeat' apply And.intro
  all_goals first | rfl | omega | exact lC_closed _ | skip
end
def putQ (l:List ByteArray) (q:ByteArray):List ByteArray:=insQ q (dropQ q l)
theorem put8_row {w:World} {b c:Nat} {l:List ByteArray} {q:ByteArray} {rest:List Value} (hh:w.heap[b]?=some (.cells (vQ l++rest).toArray 54 (0,0))) (hsz:(vQ l++rest).length=c*3) (hlc:l.length≤c) (few:l.length≤1000) (hq:q.size≤1000000000) (hs:∀ e∈l,e.size≤1000000000):
  Calls Tryz.prog 27 #[.slice (some ⟨b,0,none⟩) l.length c,.string q,.agg #[.int .i64 2,.slice none 0 0]] w (RQ w (putQ l q)):=by
 have ho:∀ (j:Nat) (o':SO) (b' c':Nat),[SO.row (cQ l) 54 (0,0) (some 3)][j]?=some o'→[(b,c)][j]?=some (b',c')→∃ r,w.heap[b']?=some r∧OR (layVal [(b,c)]) j o' r:=by
  intro j o' b' c' h1 h2
  match j with
  | 0=>
   simp only [List.getElem?_cons_zero,Option.some.injEq] at h1 h2
   subst h1
   cases h2
   exact ⟨_,hh,vQ l,rest,rfl,by rw [← cQ_map];exact VRL.lits _ _,by rw [← cQ_map,List.length_map,List.length_append];omega,(b,c),rfl,hsz⟩
  | j+1=>simp at h1
 refine calls_readR (E:=EPq) rfl (d:=6) (l:=[(b,c)]) (os:=[.row (cQ l) 54 (0,0) (some 3)]) rfl (by simp) (by simp) ho rfl (args:=[.sl 0 0 l.length none,.v (.string q),leafV]) (a:=[.slice (some ⟨b,0,none⟩) l.length c,.string q,.agg #[.int .i64 2,.slice none 0 0]]) (S0:=entP8 (cQ l) l.length q) (by kernel_rfl) (VRL.cons (VR.sl_iff.2 ⟨(b,c),rfl,hlc,rfl⟩) (VRL.cons (VR.v_iff.2 rfl) (VRL.cons (VR.v_iff.2 rfl) VRL.nil))) fun cs0=>?_
 have hM:∀ z,¬ (layOwn [(b,c)] ([SO.row (cQ l) 54 (0,0) (some 3)].map fun o=>(o,false))) z:=fun z=>layOwn_none (os:=[_])
 have hν:∀ i b',layVal [(b,c)] i=some b'→i=0:=fun i b' h=>lay1' h
 have hH:HoldsQ (cQ l) l.length (leavesOf (cQ l) l.length):=⟨by rw [leavesOf_cQ],by rw [leavesOf_cQ],few⟩
 have hd:(dropQ q l).length≤l.length:=List.length_filter_le _ _
 by_cases h0:dropQ q l=[]
 ·unfold putQ
  rw [h0,show insQ q []=[q] from rfl]
  refine ends_sq (j:=3) KPq hM (n:=100) (o:=[(1000,.b true)]++ff [0] false) ⟨?_⟩ fun w' y hB hy=>⟨hB,y,rfl,hy⟩
  rw [show cQ [q]=lC q from cQ_one q,show ([q]:List ByteArray).length=1 from rfl,pqz]
  simp only [Owed,leavesOf_cQ,h0,lC_closed,and_self,and_true,true_and]
  repeat' apply And.intro
  all_goals first | rfl | exact few | exact ⟨rfl,rfl,few⟩ | skip
 ·have nx:=firstQ (w0:=w) (cs0:=cs0) (l0:=l) (x:=q) hM hν (xs:=dropQ q l) (by omega) hq (fun e he=>hs e (List.mem_filter.1 he).1) (List.length_pos_iff.2 h0)
  refine Goes.reach KPq (k:=2) (n:=100) (o:=[(1000,.b true)]++ff [0] true) (ren:=[(0,0),(1,1),(2,2)]) (eqs:=[0,2]) (F:=hdP8 (dropQ q l).length q nilE false 0) (d:=6) (l:=objQ0 (cQ l) (cQ (dropQ q l))) ?_ (by kernel_rfl) (fun i b h=>by rw [hν i b h];rfl) nx
  rw [pq0]
  simp only [Owed,leavesOf_cQ,cQ_closed,cQ_map,nilE,and_self,and_true,true_and]
  repeat' apply And.intro
  all_goals first | rfl | exact few | exact h0 | exact ⟨rfl,rfl,few⟩ | skip
theorem put8_nil {w:World} {q:ByteArray}:Calls Tryz.prog 27 #[.slice none 0 0,.string q,.agg #[.int .i64 2,.slice none 0 0]] w (RQ w (putQ [] q)):=by
 refine (calls_bareR (E:=EPq) rfl rfl (args:=[.v (.slice none 0 0),.v (.string q),leafV]) (a:=[.slice none 0 0,.string q,.agg #[.int .i64 2,.slice none 0 0]]) (S0:=entP8n q) (by kernel_rfl) (VRL.cons (VR.v_iff.2 rfl) (VRL.cons (VR.v_iff.2 rfl) (VRL.cons (VR.v_iff.2 rfl) VRL.nil))) fun cs0=>?_)
 refine ends_sq (j:=2) KPq not_laid (n:=100) (o:=[(1000,.b true)]++ff [0] false) ⟨?_⟩ fun w' y hB hy=>⟨hB,y,rfl,hy⟩
 rw [show putQ [] q=[q] from rfl,show cQ [q]=lC q from cQ_one q,show ([q]:List ByteArray).length=1 from rfl,pqn]
 simp only [Owed,lC_closed,and_self,and_true,true_and]
 rfl
def put8S:SlG:=fun args sh=>match args with
 | [.v u,.v (.string q),L]=>match plainV L with
  | some lf=>some (vQ (putQ [] q),(putQ [] q).length,3,54,none,u=.slice none 0 0∧lf=.agg #[.int .i64 2,.slice none 0 0])
  | none=>none
 | [.sl i 0 n none,.v (.string q),L]=>match plainV L with
  | some lf=>match sh.look i with
   | some (.row ys t z x,_)=>some (vQ (putQ (leavesOf ys n) q),(putQ (leavesOf ys n) q).length,3,54,none,HoldsQ ys n (leavesOf ys n)∧t=54∧z=(0,0)∧x=some 3∧lf=.agg #[.int .i64 2,.slice none 0 0]∧q.size≤1000000000∧∀ e∈leavesOf ys n,e.size≤1000000000)
   | _=>none
  | none=>none
 | _=>none
def getGN:PlG:=fun args sh=>match args with
 | [.agg [.v (.int .u64 s),.v u],.v (.string p)]=>some (.agg #[.string p,.int .u64 0,.int .i64 0,.slice none 0 0],u=.slice none 0 0)
 | _=>getG args sh
def DatOK (D:List EntT) (x:EntT):Prop:=x∈D∨(x.a=none∧x.l=0)
def ysN (ys:EntT→List Int) (x:EntT):List Int:=if x.a.isNone then [] else ys x
def sameG (D:List EntT) (ys:EntT→List Int):PlG:=fun args sh=>match args with
 | [X,Y]=>match decX X,decX Y with
  | some x,some y=>some (.bool (sameB x y (ysN ys x) (ysN ys y)),DatOK D x∧DatOK D y)
  | _,_=>none
 | _=>none
def lRb (D:List EntT) (ys:EntT→List Int):List (FuncId × Sum):=[(27,slSumG put8S),(29,plSumG getGN),(28,plSumG (sameG D ys))]
noncomputable def ERb (D:List EntT) (ys:EntT→List Int):Env:={ EP [] [] with sums:=fun f=>(lRb D ys).lookup f }
def rowRe (l:List SV):Option (SO × Bool):=some (.row l 46 (0,0) (some 4),false)
def bx22 (s:Int) (X:SV):Option (SO × Bool):=some (.row [.v (.int .u64 s),X] 30 (0,0) none,true)
def obRR (l1 l2:List SV) (n1 n2:Nat) (r:List (Option (SO × Bool))):List (Option (SO × Bool)):=[rowRe l1,rowRe l2,bx22 0 (.sl 0 0 n1 none),bx22 0 (.sl 1 0 n2 none)]++r
noncomputable def entRR (D:List EntT) (ys:EntT→List Int) (l1 l2:List SV) (n1 n2:Nat):SM:=(enterS (ERb D ys) 10 [.agg [.v (.int .u64 0),.sl 0 0 n1 none],.agg [.v (.int .u64 0),.sl 1 0 n2 none]] (memOf 6 2 0 [rowRe l1,rowRe l2])).getD noSM
noncomputable def td1RR:List SI:=todoL (ERb [] fun _=>[]) 2 100 (entRR [] (fun _=>[]) [] [] 0 0) [(1000,.b true)]
noncomputable def h1RR (x:SV) (i:Int):SF:={ fn:=10,tm:=tmOf 67 7 ([.junk,.junk,.ptr 2 0,.ptr 3 0,.v (.slice none 0 0),x,.v (.int .i64 i)]++List.replicate 60 .junk),todo:=td1RR,defers:=[],ret:=false,kind:=.normal,ro:=none }
noncomputable def td2RR:List SI:=todoL (ERb [] fun _=>[]) 2 100 (SM.at (h1RR nilE 0) 6 (obRR [] [] 0 0 [])) (ff [0] false)
noncomputable def h2RR (x:SV) (i:Int):SF:={ fn:=10,tm:=tmOf 67 7 ([.junk,.junk,.ptr 2 0,.ptr 3 0,.v (.slice none 0 0),x,.junk,.v (.int .i64 i)]++List.replicate 59 .junk),todo:=td2RR,defers:=[],ret:=false,kind:=.normal,ro:=none }
noncomputable def td3RR:List SI:=todoL (ERb [] fun _=>[]) 2 100 (SM.at (h2RR nilE 0) 6 (obRR [] [] 0 0 [])) (ff [0] false)
noncomputable def h3RR (x y:SV) (i:Int):SF:={ fn:=10,tm:=tmOf 67 7 ([.junk,.junk,.ptr 2 0,.ptr 3 0,.v (.slice none 0 0),x,.junk,.junk,y,.v (.int .i64 i)]++List.replicate 57 .junk),todo:=td3RR,defers:=[],ret:=false,kind:=.normal,ro:=none }
theorem ra0RR (D:List EntT) (ys:EntT→List Int) (l1 l2:List SV) (n1 n2:Nat):reach (ERb D ys) 2 100 (entRR D ys l1 l2 n1 n2) [(1000,.b true)] [(0,0),(1,1),(2,2),(3,3)] [0,1] (h1RR nilE 0) 6 (obRR l1 l2 n1 n2 [])=[
 (0:Nat)=(0:Nat),
 (0:Nat)=(0:Nat),
 Value.slice none (0:Nat) (0:Nat)=Value.slice none (0:Nat) (0:Nat),
 Value.slice none (0:Nat) (0:Nat)=Value.slice none (0:Nat) (0:Nat),
 Value.int IntKind.i64 (0:Int)=Value.int IntKind.i64 (0:Int),
 l1=l1,
 l1.all closedSV=true,
 l2=l2,
 l2.all closedSV=true,
 Value.int IntKind.u64 (0:Int)=Value.int IntKind.u64 (0:Int),
 (0:Nat)=(0:Nat)∧n1=n1∧(none:Option Nat)=none,
 Value.int IntKind.u64 (0:Int)=Value.int IntKind.u64 (0:Int),
 (0:Nat)=(0:Nat)∧n2=n2∧(none:Option Nat)=none]:=by kernel_rfl
theorem rb1RR (D : List EntT) (ys : EntT → List Int) (l1 l2 : List SV) (n1 n2 : Nat) (m' : List SV) (k k' : Nat) (q : ByteArray) (i i' : Int) : reach (ERb D ys) 2 100 (SM.at (h1RR nilE i) 6 (obRR l1 l2 n1 n2 [])) (ff [0] true ++ [(2, .cells [.v (.string q)])]) [(0, 0), (1, 1), (2, 2), (3, 3), (4, 4)] [0, 1, 4] (h1RR (.sl 4 0 k' none) i') 6 (obRR l1 l2 n1 n2 [rowsQ m']) = [
  (0 : Nat) = (0 : Nat),
  (0 : Nat) = (0 : Nat),
  Value.slice none (0 : Nat) (0 : Nat) = Value.slice none (0 : Nat) (0 : Nat),
  (0 : Nat) = (0 : Nat) ∧ (putQ [] q).length = k' ∧ (none : Option Nat) = none,
  Value.int IntKind.i64 (IntKind.i64.wrap (i + (1 : Int))) = Value.int IntKind.i64 i',
  l1 = l1,
  l1.all closedSV = true,
  l2 = l2,
  l2.all closedSV = true,
  Value.int IntKind.u64 (0 : Int) = Value.int IntKind.u64 (0 : Int),
  (0 : Nat) = (0 : Nat) ∧ n1 = n1 ∧ (none : Option Nat) = none,
  Value.int IntKind.u64 (0 : Int) = Value.int IntKind.u64 (0 : Int),
  (0 : Nat) = (0 : Nat) ∧ n2 = n2 ∧ (none : Option Nat) = none,
  List.map SV.v (vQ (putQ [] q)) = m',
  m'.all closedSV = true,
  Value.slice none (0 : Nat) (0 : Nat) = Value.slice none (0 : Nat) (0 : Nat) ∧
   Value.agg { toList := [Value.int IntKind.i64 (2 : Int), Value.slice none (0 : Nat) (0 : Nat)] : Array Value } =
   Value.agg { toList := [Value.int IntKind.i64 (2 : Int), Value.slice none (0 : Nat) (0 : Nat)] : Array Value },
  l1[(0 : Nat) + i.toNat * (4 : Nat) + (0 : Nat)]? = some (SV.v (Value.string q)),
  inRange i n1 = true,
  decide (i < (↑n1 : Int)) = true] := by kernel_rfl
theorem rc1RR (D : List EntT) (ys : EntT → List Int) (l1 l2 : List SV) (n1 n2 : Nat) (m m' : List SV) (k k' : Nat) (q : ByteArray) (i i' : Int) : reach (ERb D ys) 2 100 (SM.at (h1RR (.sl 4 0 k none) i) 6 (obRR l1 l2 n1 n2 [rowsQ m])) (ff [0] true ++ [(2, .cells [.v (.string q)])]) [(0, 0), (1, 1), (2, 2), (3, 3), (4, 5)] [0, 1, 4] (h1RR (.sl 4 0 k' none) i') 6 (obRR l1 l2 n1 n2 [rowsQ m']) = [
  (0 : Nat) = (0 : Nat),
  (0 : Nat) = (0 : Nat),
  Value.slice none (0 : Nat) (0 : Nat) = Value.slice none (0 : Nat) (0 : Nat),
  (0 : Nat) = (0 : Nat) ∧ (putQ (leavesOf m k) q).length = k' ∧ (none : Option Nat) = none,
  Value.int IntKind.i64 (IntKind.i64.wrap (i + (1 : Int))) = Value.int IntKind.i64 i',
  l1 = l1,
  l1.all closedSV = true,
  l2 = l2,
  l2.all closedSV = true,
  Value.int IntKind.u64 (0 : Int) = Value.int IntKind.u64 (0 : Int),
  (0 : Nat) = (0 : Nat) ∧ n1 = n1 ∧ (none : Option Nat) = none,
  Value.int IntKind.u64 (0 : Int) = Value.int IntKind.u64 (0 : Int),
  (0 : Nat) = (0 : Nat) ∧ n2 = n2 ∧ (none : Option Nat) = none,
  List.map SV.v (vQ (putQ (leavesOf m k) q)) = m',
  m'.all closedSV = true,
  HoldsQ m k (leavesOf m k) ∧
   (54 : Nat) = (54 : Nat) ∧
   ((0 : Nat), (0 : Nat)) = ((0 : Nat), (0 : Nat)) ∧
   some (3 : Nat) = some (3 : Nat) ∧
   Value.agg { toList := [Value.int IntKind.i64 (2 : Int), Value.slice none (0 : Nat) (0 : Nat)] : Array Value } =
   Value.agg
   { toList := [Value.int IntKind.i64 (2 : Int), Value.slice none (0 : Nat) (0 : Nat)] : Array Value } ∧
   q.size ≤ (1000000000 : Nat) ∧ ∀ (e : ByteArray), e ∈ leavesOf m k → e.size ≤ (1000000000 : Nat),
  l1[(0 : Nat) + i.toNat * (4 : Nat) + (0 : Nat)]? = some (SV.v (Value.string q)),
  inRange i n1 = true,
  decide (i < (↑n1 : Int)) = true] := by kernel_rfl
theorem ry1RR (D:List EntT) (ys:EntT→List Int) (l1 l2:List SV) (n1 n2:Nat) (m:List SV) (k:Nat) (i:Int):reach (ERb D ys) 2 100 (SM.at (h1RR (.sl 4 0 k none) i) 6 (obRR l1 l2 n1 n2 [rowsQ m])) (ff [0] false) [(0,0),(1,1),(2,2),(3,3),(4,4)] [0,1,4] (h2RR (.sl 4 0 k none) 0) 6 (obRR l1 l2 n1 n2 [rowsQ m])=[
 (0:Nat)=(0:Nat),
 (0:Nat)=(0:Nat),
 Value.slice none (0:Nat) (0:Nat)=Value.slice none (0:Nat) (0:Nat),
 (0:Nat)=(0:Nat)∧k=k∧(none:Option Nat)=none,
 Value.int IntKind.i64 (0:Int)=Value.int IntKind.i64 (0:Int),
 l1=l1,
 l1.all closedSV=true,
 l2=l2,
 l2.all closedSV=true,
 Value.int IntKind.u64 (0:Int)=Value.int IntKind.u64 (0:Int),
 (0:Nat)=(0:Nat)∧n1=n1∧(none:Option Nat)=none,
 Value.int IntKind.u64 (0:Int)=Value.int IntKind.u64 (0:Int),
 (0:Nat)=(0:Nat)∧n2=n2∧(none:Option Nat)=none,
 m=m,
 m.all closedSV=true,
 decide (i<(↑n1:Int))=false]:=by kernel_rfl
theorem rc2RR (D : List EntT) (ys : EntT → List Int) (l1 l2 : List SV) (n1 n2 : Nat) (m m' : List SV) (k k' : Nat) (q : ByteArray) (i i' : Int) : reach (ERb D ys) 2 100 (SM.at (h2RR (.sl 4 0 k none) i) 6 (obRR l1 l2 n1 n2 [rowsQ m])) (ff [0] true ++ [(2, .cells [.v (.string q)])]) [(0, 0), (1, 1), (2, 2), (3, 3), (4, 5)] [0, 1, 4] (h2RR (.sl 4 0 k' none) i') 6 (obRR l1 l2 n1 n2 [rowsQ m']) = [
  (0 : Nat) = (0 : Nat),
  (0 : Nat) = (0 : Nat),
  Value.slice none (0 : Nat) (0 : Nat) = Value.slice none (0 : Nat) (0 : Nat),
  (0 : Nat) = (0 : Nat) ∧ (putQ (leavesOf m k) q).length = k' ∧ (none : Option Nat) = none,
  Value.int IntKind.i64 (IntKind.i64.wrap (i + (1 : Int))) = Value.int IntKind.i64 i',
  l1 = l1,
  l1.all closedSV = true,
  l2 = l2,
  l2.all closedSV = true,
  Value.int IntKind.u64 (0 : Int) = Value.int IntKind.u64 (0 : Int),
  (0 : Nat) = (0 : Nat) ∧ n1 = n1 ∧ (none : Option Nat) = none,
  Value.int IntKind.u64 (0 : Int) = Value.int IntKind.u64 (0 : Int),
  (0 : Nat) = (0 : Nat) ∧ n2 = n2 ∧ (none : Option Nat) = none,
  List.map SV.v (vQ (putQ (leavesOf m k) q)) = m',
  m'.all closedSV = true,
  HoldsQ m k (leavesOf m k) ∧
   (54 : Nat) = (54 : Nat) ∧
   ((0 : Nat), (0 : Nat)) = ((0 : Nat), (0 : Nat)) ∧
   some (3 : Nat) = some (3 : Nat) ∧
   Value.agg { toList := [Value.int IntKind.i64 (2 : Int), Value.slice none (0 : Nat) (0 : Nat)] : Array Value } =
   Value.agg
   { toList := [Value.int IntKind.i64 (2 : Int), Value.slice none (0 : Nat) (0 : Nat)] : Array Value } ∧
   q.size ≤ (1000000000 : Nat) ∧ ∀ (e : ByteArray), e ∈ leavesOf m k → e.size ≤ (1000000000 : Nat),
  l2[(0 : Nat) + i.toNat * (4 : Nat) + (0 : Nat)]? = some (SV.v (Value.string q)),
  inRange i n2 = true,
  decide (i < (↑n2 : Int)) = true] := by kernel_rfl
theorem ry2RR (D:List EntT) (ys:EntT→List Int) (l1 l2:List SV) (n1 n2:Nat) (m:List SV) (k:Nat) (i:Int):reach (ERb D ys) 2 100 (SM.at (h2RR (.sl 4 0 k none) i) 6 (obRR l1 l2 n1 n2 [rowsQ m])) (ff [0] false) [(0,0),(1,1),(2,2),(3,3),(4,4)] [0,1,4] (h3RR (.sl 4 0 k none) nilE 0) 6 (obRR l1 l2 n1 n2 [rowsQ m])=[
 (0:Nat)=(0:Nat),
 (0:Nat)=(0:Nat),
 Value.slice none (0:Nat) (0:Nat)=Value.slice none (0:Nat) (0:Nat),
 (0:Nat)=(0:Nat)∧k=k∧(none:Option Nat)=none,
 Value.slice none (0:Nat) (0:Nat)=Value.slice none (0:Nat) (0:Nat),
 Value.int IntKind.i64 (0:Int)=Value.int IntKind.i64 (0:Int),
 l1=l1,
 l1.all closedSV=true,
 l2=l2,
 l2.all closedSV=true,
 Value.int IntKind.u64 (0:Int)=Value.int IntKind.u64 (0:Int),
 (0:Nat)=(0:Nat)∧n1=n1∧(none:Option Nat)=none,
 Value.int IntKind.u64 (0:Int)=Value.int IntKind.u64 (0:Int),
 (0:Nat)=(0:Nat)∧n2=n2∧(none:Option Nat)=none,
 m=m,
 m.all closedSV=true,
 decide (i<(↑n2:Int))=false]:=by kernel_rfl
theorem rz1RR (D:List EntT) (ys:EntT→List Int) (l1 l2:List SV) (n1 n2:Nat) (m:List SV) (k:Nat) (i:Int) (v:Value):endsV (ERb D ys) 10 100 (SM.at (h3RR (.sl 4 0 k none) nilE i) 6 (obRR l1 l2 n1 n2 [rowsQ m])) (ff [0] false) v=[
 Value.slice none (0:Nat) (0:Nat)=v,
 decide (i<(↑k:Int))=false]:=by kernel_rfl
theorem rz2RR (D:List EntT) (ys:EntT→List Int) (l1 l2:List SV) (n1 n2:Nat) (m o:List SV) (k r:Nat) (i:Int):endsO (ERb D ys) 10 100 (SM.at (h3RR (.sl 4 0 k none) (.sl 5 0 r none) i) 6 (obRR l1 l2 n1 n2 [rowsQ m,strR o])) (ff [0] false) (.sl 5 0 r none) 5 (.row o 9 (0,0) (some 1))=[
 (0:Nat)=(0:Nat)∧r=r∧(none:Option Nat)=none,
 o=o,
 o.all closedSV=true,
 decide (i<(↑k:Int))=false]:=by kernel_rfl
theorem rf0RR (D : List EntT) (ys : EntT → List Int) (l1 l2 : List SV) (n1 n2 : Nat) (m o o' w : List SV) (k r : Nat) (q : ByteArray) (i i' : Int) : reach (ERb D ys) 2 200 (SM.at (h3RR (.sl 4 0 k none) nilE i) 6 (obRR l1 l2 n1 n2 [rowsQ m])) (ff [0] true ++ [(2, .cells [.v (.string q)]), (8, .b false)]) [(0, 0), (1, 1), (2, 2), (3, 3), (4, 4)] [0, 1, 4] (h3RR (.sl 4 0 k none) nilE i') 6 (obRR l1 l2 n1 n2 [rowsQ m]) = [
  (0 : Nat) = (0 : Nat),
  (0 : Nat) = (0 : Nat),
  Value.slice none (0 : Nat) (0 : Nat) = Value.slice none (0 : Nat) (0 : Nat),
  (0 : Nat) = (0 : Nat) ∧ k = k ∧ (none : Option Nat) = none,
  Value.slice none (0 : Nat) (0 : Nat) = Value.slice none (0 : Nat) (0 : Nat),
  Value.int IntKind.i64 (IntKind.i64.wrap (i + (1 : Int))) = Value.int IntKind.i64 i',
  l1 = l1,
  l1.all closedSV = true,
  l2 = l2,
  l2.all closedSV = true,
  Value.int IntKind.u64 (0 : Int) = Value.int IntKind.u64 (0 : Int),
  (0 : Nat) = (0 : Nat) ∧ n1 = n1 ∧ (none : Option Nat) = none,
  Value.int IntKind.u64 (0 : Int) = Value.int IntKind.u64 (0 : Int),
  (0 : Nat) = (0 : Nat) ∧ n2 = n2 ∧ (none : Option Nat) = none,
  m = m,
  m.all closedSV = true,
  (!sameB
   (findE q (entsOf l1 n1))
   (findE q (entsOf l2 n2))
   (ysN ys
   (findE q (entsOf l1 n1)))
   (ysN ys
   (findE q (entsOf l2 n2)))) =
   false,
  DatOK D
   (findE q (entsOf l1 n1)) ∧
   DatOK D
   (findE q (entsOf l2 n2)),
  HoldsE l2 n2 (entsOf l2 n2),
  (0 : Nat) = (0 : Nat) ∧ n2 = n2 ∧ (none : Option Nat) = none,
  true = true,
  HoldsE l1 n1 (entsOf l1 n1),
  m[(0 : Nat) + i.toNat * (3 : Nat) + (0 : Nat)]? = some (SV.v (Value.string q)),
  inRange i k = true,
  decide (i < (↑k : Int)) = true] := by kernel_rfl
theorem rt0RR (D : List EntT) (ys : EntT → List Int) (l1 l2 : List SV) (n1 n2 : Nat) (m o o' w : List SV) (k r : Nat) (q : ByteArray) (i i' : Int) : reach (ERb D ys) 2 200 (SM.at (h3RR (.sl 4 0 k none) nilE i) 6 (obRR l1 l2 n1 n2 [rowsQ m])) (ff [0] true ++ [(2, .cells [.v (.string q)]), (8, .b true), (9, .b false)]) [(0, 0), (1, 1), (2, 2), (3, 3), (4, 4), (5, 6)] [0, 1, 4, 5] (h3RR (.sl 4 0 k none) (.sl 5 0 1 none) i') 6 (obRR l1 l2 n1 n2 [rowsQ m, strR o']) = [
  (0 : Nat) = (0 : Nat),
  (0 : Nat) = (0 : Nat),
  Value.slice none (0 : Nat) (0 : Nat) = Value.slice none (0 : Nat) (0 : Nat),
  (0 : Nat) = (0 : Nat) ∧ k = k ∧ (none : Option Nat) = none,
  (0 : Nat) = (0 : Nat) ∧ (1 : Nat) = (1 : Nat) ∧ (none : Option Nat) = none,
  Value.int IntKind.i64 (IntKind.i64.wrap (i + (1 : Int))) = Value.int IntKind.i64 i',
  l1 = l1,
  l1.all closedSV = true,
  l2 = l2,
  l2.all closedSV = true,
  Value.int IntKind.u64 (0 : Int) = Value.int IntKind.u64 (0 : Int),
  (0 : Nat) = (0 : Nat) ∧ n1 = n1 ∧ (none : Option Nat) = none,
  Value.int IntKind.u64 (0 : Int) = Value.int IntKind.u64 (0 : Int),
  (0 : Nat) = (0 : Nat) ∧ n2 = n2 ∧ (none : Option Nat) = none,
  m = m,
  m.all closedSV = true,
  [] ++
   List.take ((1 : Nat) * (1 : Nat))
   (List.drop (0 : Nat)
   (splice
   (List.replicate (1 : Nat)
   (List.map SV.v
   { toList := [Value.string { data := { toList := [] : Array UInt8 } : ByteArray }] :
   Array Value }.toList)).flatten
   ((0 : Nat) * (1 : Nat)) [SV.v (Value.string q)])) =
   o',
  o'.all closedSV = true,
  false = false,
  (!sameB
   (findE q (entsOf l1 n1))
   (findE q (entsOf l2 n2))
   (ysN ys
   (findE q (entsOf l1 n1)))
   (ysN ys
   (findE q (entsOf l2 n2)))) =
   true,
  DatOK D
   (findE q (entsOf l1 n1)) ∧
   DatOK D
   (findE q (entsOf l2 n2)),
  HoldsE l2 n2 (entsOf l2 n2),
  (0 : Nat) = (0 : Nat) ∧ n2 = n2 ∧ (none : Option Nat) = none,
  true = true,
  HoldsE l1 n1 (entsOf l1 n1),
  m[(0 : Nat) + i.toNat * (3 : Nat) + (0 : Nat)]? = some (SV.v (Value.string q)),
  inRange i k = true,
  decide (i < (↑k : Int)) = true] := by kernel_rfl
theorem rf1RR (D : List EntT) (ys : EntT → List Int) (l1 l2 : List SV) (n1 n2 : Nat) (m o o' w : List SV) (k r : Nat) (q : ByteArray) (i i' : Int) : reach (ERb D ys) 2 200 (SM.at (h3RR (.sl 4 0 k none) (.sl 5 0 r none) i) 6 (obRR l1 l2 n1 n2 [rowsQ m, strR o])) (ff [0] true ++ [(2, .cells [.v (.string q)]), (8, .b false)]) [(0, 0), (1, 1), (2, 2), (3, 3), (4, 4), (5, 5)] [0, 1, 4, 5] (h3RR (.sl 4 0 k none) (.sl 5 0 r none) i') 6 (obRR l1 l2 n1 n2 [rowsQ m, strR o]) = [
  (0 : Nat) = (0 : Nat),
  (0 : Nat) = (0 : Nat),
  Value.slice none (0 : Nat) (0 : Nat) = Value.slice none (0 : Nat) (0 : Nat),
  (0 : Nat) = (0 : Nat) ∧ k = k ∧ (none : Option Nat) = none,
  (0 : Nat) = (0 : Nat) ∧ r = r ∧ (none : Option Nat) = none,
  Value.int IntKind.i64 (IntKind.i64.wrap (i + (1 : Int))) = Value.int IntKind.i64 i',
  l1 = l1,
  l1.all closedSV = true,
  l2 = l2,
  l2.all closedSV = true,
  Value.int IntKind.u64 (0 : Int) = Value.int IntKind.u64 (0 : Int),
  (0 : Nat) = (0 : Nat) ∧ n1 = n1 ∧ (none : Option Nat) = none,
  Value.int IntKind.u64 (0 : Int) = Value.int IntKind.u64 (0 : Int),
  (0 : Nat) = (0 : Nat) ∧ n2 = n2 ∧ (none : Option Nat) = none,
  m = m,
  m.all closedSV = true,
  o = o,
  o.all closedSV = true,
  (!sameB
   (findE q (entsOf l1 n1))
   (findE q (entsOf l2 n2))
   (ysN ys
   (findE q (entsOf l1 n1)))
   (ysN ys
   (findE q (entsOf l2 n2)))) =
   false,
  DatOK D
   (findE q (entsOf l1 n1)) ∧
   DatOK D
   (findE q (entsOf l2 n2)),
  HoldsE l2 n2 (entsOf l2 n2),
  (0 : Nat) = (0 : Nat) ∧ n2 = n2 ∧ (none : Option Nat) = none,
  true = true,
  HoldsE l1 n1 (entsOf l1 n1),
  m[(0 : Nat) + i.toNat * (3 : Nat) + (0 : Nat)]? = some (SV.v (Value.string q)),
  inRange i k = true,
  decide (i < (↑k : Int)) = true] := by kernel_rfl
theorem rt1RR (D : List EntT) (ys : EntT → List Int) (l1 l2 : List SV) (n1 n2 : Nat) (m o o' w : List SV) (k r : Nat) (q : ByteArray) (i i' : Int) : reach (ERb D ys) 2 200 (SM.at (h3RR (.sl 4 0 k none) (.sl 5 0 r none) i) 6 (obRR l1 l2 n1 n2 [rowsQ m, strR o])) (ff [0] true ++ [(2, .cells [.v (.string q)]), (8, .b true), (9, .app o w)]) [(0, 0), (1, 1), (2, 2), (3, 3), (4, 4), (5, 7)] [0, 1, 4, 5] (h3RR (.sl 4 0 k none) (.sl 5 0 (r + 1) none) i') 6 (obRR l1 l2 n1 n2 [rowsQ m, strR o']) = [
  (0 : Nat) = (0 : Nat),
  (0 : Nat) = (0 : Nat),
  Value.slice none (0 : Nat) (0 : Nat) = Value.slice none (0 : Nat) (0 : Nat),
  (0 : Nat) = (0 : Nat) ∧ k = k ∧ (none : Option Nat) = none,
  (0 : Nat) = (0 : Nat) ∧ r + (1 : Nat) = r + (1 : Nat) ∧ (none : Option Nat) = none,
  Value.int IntKind.i64 (IntKind.i64.wrap (i + (1 : Int))) = Value.int IntKind.i64 i',
  l1 = l1,
  l1.all closedSV = true,
  l2 = l2,
  l2.all closedSV = true,
  Value.int IntKind.u64 (0 : Int) = Value.int IntKind.u64 (0 : Int),
  (0 : Nat) = (0 : Nat) ∧ n1 = n1 ∧ (none : Option Nat) = none,
  Value.int IntKind.u64 (0 : Int) = Value.int IntKind.u64 (0 : Int),
  (0 : Nat) = (0 : Nat) ∧ n2 = n2 ∧ (none : Option Nat) = none,
  m = m,
  m.all closedSV = true,
  o ++ w = o',
  o'.all closedSV = true,
  ((List.take ((1 : Nat) * (1 : Nat))
   (List.drop (0 : Nat)
   (splice
   (List.replicate (1 : Nat)
   (List.map SV.v
   { toList := [Value.string { data := { toList := [] : Array UInt8 } : ByteArray }] :
   Array Value }.toList)).flatten
   ((0 : Nat) * (1 : Nat)) [SV.v (Value.string q)])) =
   w ∧
   w.length = (1 : Nat) * (1 : Nat)) ∧
   (1 : Nat) ≠ (0 : Nat) ∧
   ((2 : Nat) * (r + (1 : Nat)) + (1024 : Nat)) * (16 : Nat) ≤ (140737488355328 : Nat)) ∧
   List.take (r * (1 : Nat)) o = o ∧
   o.length = r * (1 : Nat) ∧ w.all SV.flat = true,
  (!sameB
   (findE q (entsOf l1 n1))
   (findE q (entsOf l2 n2))
   (ysN ys
   (findE q (entsOf l1 n1)))
   (ysN ys
   (findE q (entsOf l2 n2)))) =
   true,
  DatOK D
   (findE q (entsOf l1 n1)) ∧
   DatOK D
   (findE q (entsOf l2 n2)),
  HoldsE l2 n2 (entsOf l2 n2),
  (0 : Nat) = (0 : Nat) ∧ n2 = n2 ∧ (none : Option Nat) = none,
  true = true,
  HoldsE l1 n1 (entsOf l1 n1),
  m[(0 : Nat) + i.toNat * (3 : Nat) + (0 : Nat)]? = some (SV.v (Value.string q)),
  inRange i k = true,
  decide (i < (↑k : Int)) = true] := by kernel_rfl
def obRN (l1 l2:List SV) (n1 n2:Nat) (r:List (Option (SO × Bool))):List (Option (SO × Bool)):=[rowRe l1,bx22 0 (.sl 0 0 n1 none),bx22 0 (.v (.slice none 0 0))]++r
noncomputable def entRN (D:List EntT) (ys:EntT→List Int) (l1 l2:List SV) (n1 n2:Nat):SM:=(enterS (ERb D ys) 10 [.agg [.v (.int .u64 0),.sl 0 0 n1 none],.agg [.v (.int .u64 0),.v (.slice none 0 0)]] (memOf 6 1 0 [rowRe l1])).getD noSM
noncomputable def td1RN:List SI:=todoL (ERb [] fun _=>[]) 2 100 (entRN [] (fun _=>[]) [] [] 0 0) [(1000,.b true)]
noncomputable def h1RN (x:SV) (i:Int):SF:={ fn:=10,tm:=tmOf 67 7 ([.junk,.junk,.ptr 1 0,.ptr 2 0,.v (.slice none 0 0),x,.v (.int .i64 i)]++List.replicate 60 .junk),todo:=td1RN,defers:=[],ret:=false,kind:=.normal,ro:=none }
noncomputable def td2RN:List SI:=todoL (ERb [] fun _=>[]) 2 100 (SM.at (h1RN nilE 0) 6 (obRN [] [] 0 0 [])) (ff [0] false)
noncomputable def h2RN (x:SV) (i:Int):SF:={ fn:=10,tm:=tmOf 67 7 ([.junk,.junk,.ptr 1 0,.ptr 2 0,.v (.slice none 0 0),x,.junk,.v (.int .i64 i)]++List.replicate 59 .junk),todo:=td2RN,defers:=[],ret:=false,kind:=.normal,ro:=none }
noncomputable def td3RN:List SI:=todoL (ERb [] fun _=>[]) 2 100 (SM.at (h2RN nilE 0) 6 (obRN [] [] 0 0 [])) (ff [0] false)
noncomputable def h3RN (x y:SV) (i:Int):SF:={ fn:=10,tm:=tmOf 67 7 ([.junk,.junk,.ptr 1 0,.ptr 2 0,.v (.slice none 0 0),x,.junk,.junk,y,.v (.int .i64 i)]++List.replicate 57 .junk),todo:=td3RN,defers:=[],ret:=false,kind:=.normal,ro:=none }
theorem ra0RN (D:List EntT) (ys:EntT→List Int) (l1 l2:List SV) (n1 n2:Nat):reach (ERb D ys) 2 100 (entRN D ys l1 l2 n1 n2) [(1000,.b true)] [(0,0),(1,1),(2,2)] [0] (h1RN nilE 0) 6 (obRN l1 l2 n1 n2 [])=[
 (0:Nat)=(0:Nat),
 (0:Nat)=(0:Nat),
 Value.slice none (0:Nat) (0:Nat)=Value.slice none (0:Nat) (0:Nat),
 Value.slice none (0:Nat) (0:Nat)=Value.slice none (0:Nat) (0:Nat),
 Value.int IntKind.i64 (0:Int)=Value.int IntKind.i64 (0:Int),
 l1=l1,
 l1.all closedSV=true,
 Value.int IntKind.u64 (0:Int)=Value.int IntKind.u64 (0:Int),
 (0:Nat)=(0:Nat)∧n1=n1∧(none:Option Nat)=none,
 Value.int IntKind.u64 (0:Int)=Value.int IntKind.u64 (0:Int),
 Value.slice none (0:Nat) (0:Nat)=Value.slice none (0:Nat) (0:Nat)]:=by kernel_rfl
theorem rb1RN (D : List EntT) (ys : EntT → List Int) (l1 l2 : List SV) (n1 n2 : Nat) (m' : List SV) (k k' : Nat) (q : ByteArray) (i i' : Int) : reach (ERb D ys) 2 100 (SM.at (h1RN nilE i) 6 (obRN l1 l2 n1 n2 [])) (ff [0] true ++ [(2, .cells [.v (.string q)])]) [(0, 0), (1, 1), (2, 2), (3, 3)] [0, 3] (h1RN (.sl 3 0 k' none) i') 6 (obRN l1 l2 n1 n2 [rowsQ m']) = [
  (0 : Nat) = (0 : Nat),
  (0 : Nat) = (0 : Nat),
  Value.slice none (0 : Nat) (0 : Nat) = Value.slice none (0 : Nat) (0 : Nat),
  (0 : Nat) = (0 : Nat) ∧ (putQ [] q).length = k' ∧ (none : Option Nat) = none,
  Value.int IntKind.i64 (IntKind.i64.wrap (i + (1 : Int))) = Value.int IntKind.i64 i',
  l1 = l1,
  l1.all closedSV = true,
  Value.int IntKind.u64 (0 : Int) = Value.int IntKind.u64 (0 : Int),
  (0 : Nat) = (0 : Nat) ∧ n1 = n1 ∧ (none : Option Nat) = none,
  Value.int IntKind.u64 (0 : Int) = Value.int IntKind.u64 (0 : Int),
  Value.slice none (0 : Nat) (0 : Nat) = Value.slice none (0 : Nat) (0 : Nat),
  List.map SV.v (vQ (putQ [] q)) = m',
  m'.all closedSV = true,
  Value.slice none (0 : Nat) (0 : Nat) = Value.slice none (0 : Nat) (0 : Nat) ∧
   Value.agg { toList := [Value.int IntKind.i64 (2 : Int), Value.slice none (0 : Nat) (0 : Nat)] : Array Value } =
   Value.agg { toList := [Value.int IntKind.i64 (2 : Int), Value.slice none (0 : Nat) (0 : Nat)] : Array Value },
  l1[(0 : Nat) + i.toNat * (4 : Nat) + (0 : Nat)]? = some (SV.v (Value.string q)),
  inRange i n1 = true,
  decide (i < (↑n1 : Int)) = true] := by kernel_rfl
theorem rc1RN (D : List EntT) (ys : EntT → List Int) (l1 l2 : List SV) (n1 n2 : Nat) (m m' : List SV) (k k' : Nat) (q : ByteArray) (i i' : Int) : reach (ERb D ys) 2 100 (SM.at (h1RN (.sl 3 0 k none) i) 6 (obRN l1 l2 n1 n2 [rowsQ m])) (ff [0] true ++ [(2, .cells [.v (.string q)])]) [(0, 0), (1, 1), (2, 2), (3, 4)] [0, 3] (h1RN (.sl 3 0 k' none) i') 6 (obRN l1 l2 n1 n2 [rowsQ m']) = [
  (0 : Nat) = (0 : Nat),
  (0 : Nat) = (0 : Nat),
  Value.slice none (0 : Nat) (0 : Nat) = Value.slice none (0 : Nat) (0 : Nat),
  (0 : Nat) = (0 : Nat) ∧ (putQ (leavesOf m k) q).length = k' ∧ (none : Option Nat) = none,
  Value.int IntKind.i64 (IntKind.i64.wrap (i + (1 : Int))) = Value.int IntKind.i64 i',
  l1 = l1,
  l1.all closedSV = true,
  Value.int IntKind.u64 (0 : Int) = Value.int IntKind.u64 (0 : Int),
  (0 : Nat) = (0 : Nat) ∧ n1 = n1 ∧ (none : Option Nat) = none,
  Value.int IntKind.u64 (0 : Int) = Value.int IntKind.u64 (0 : Int),
  Value.slice none (0 : Nat) (0 : Nat) = Value.slice none (0 : Nat) (0 : Nat),
  List.map SV.v (vQ (putQ (leavesOf m k) q)) = m',
  m'.all closedSV = true,
  HoldsQ m k (leavesOf m k) ∧
   (54 : Nat) = (54 : Nat) ∧
   ((0 : Nat), (0 : Nat)) = ((0 : Nat), (0 : Nat)) ∧
   some (3 : Nat) = some (3 : Nat) ∧
   Value.agg { toList := [Value.int IntKind.i64 (2 : Int), Value.slice none (0 : Nat) (0 : Nat)] : Array Value } =
   Value.agg
   { toList := [Value.int IntKind.i64 (2 : Int), Value.slice none (0 : Nat) (0 : Nat)] : Array Value } ∧
   q.size ≤ (1000000000 : Nat) ∧ ∀ (e : ByteArray), e ∈ leavesOf m k → e.size ≤ (1000000000 : Nat),
  l1[(0 : Nat) + i.toNat * (4 : Nat) + (0 : Nat)]? = some (SV.v (Value.string q)),
  inRange i n1 = true,
  decide (i < (↑n1 : Int)) = true] := by kernel_rfl
theorem ry1RN (D:List EntT) (ys:EntT→List Int) (l1 l2:List SV) (n1 n2:Nat) (m:List SV) (k:Nat) (i:Int):reach (ERb D ys) 2 100 (SM.at (h1RN (.sl 3 0 k none) i) 6 (obRN l1 l2 n1 n2 [rowsQ m])) (ff [0] false) [(0,0),(1,1),(2,2),(3,3)] [0,3] (h2RN (.sl 3 0 k none) 0) 6 (obRN l1 l2 n1 n2 [rowsQ m])=[
 (0:Nat)=(0:Nat),
 (0:Nat)=(0:Nat),
 Value.slice none (0:Nat) (0:Nat)=Value.slice none (0:Nat) (0:Nat),
 (0:Nat)=(0:Nat)∧k=k∧(none:Option Nat)=none,
 Value.int IntKind.i64 (0:Int)=Value.int IntKind.i64 (0:Int),
 l1=l1,
 l1.all closedSV=true,
 Value.int IntKind.u64 (0:Int)=Value.int IntKind.u64 (0:Int),
 (0:Nat)=(0:Nat)∧n1=n1∧(none:Option Nat)=none,
 Value.int IntKind.u64 (0:Int)=Value.int IntKind.u64 (0:Int),
 Value.slice none (0:Nat) (0:Nat)=Value.slice none (0:Nat) (0:Nat),
 m=m,
 m.all closedSV=true,
 decide (i<(↑n1:Int))=false]:=by kernel_rfl
theorem ry2RN (D:List EntT) (ys:EntT→List Int) (l1 l2:List SV) (n1 n2:Nat) (m:List SV) (k:Nat) (i:Int):reach (ERb D ys) 2 100 (SM.at (h2RN (.sl 3 0 k none) i) 6 (obRN l1 l2 n1 n2 [rowsQ m])) (ff [0] false) [(0,0),(1,1),(2,2),(3,3)] [0,3] (h3RN (.sl 3 0 k none) nilE 0) 6 (obRN l1 l2 n1 n2 [rowsQ m])=[
 (0:Nat)=(0:Nat),
 (0:Nat)=(0:Nat),
 Value.slice none (0:Nat) (0:Nat)=Value.slice none (0:Nat) (0:Nat),
 (0:Nat)=(0:Nat)∧k=k∧(none:Option Nat)=none,
 Value.slice none (0:Nat) (0:Nat)=Value.slice none (0:Nat) (0:Nat),
 Value.int IntKind.i64 (0:Int)=Value.int IntKind.i64 (0:Int),
 l1=l1,
 l1.all closedSV=true,
 Value.int IntKind.u64 (0:Int)=Value.int IntKind.u64 (0:Int),
 (0:Nat)=(0:Nat)∧n1=n1∧(none:Option Nat)=none,
 Value.int IntKind.u64 (0:Int)=Value.int IntKind.u64 (0:Int),
 Value.slice none (0:Nat) (0:Nat)=Value.slice none (0:Nat) (0:Nat),
 m=m,
 m.all closedSV=true,
 decide (i<(↑(0:Nat):Int))=false]:=by kernel_rfl
theorem rz1RN (D:List EntT) (ys:EntT→List Int) (l1 l2:List SV) (n1 n2:Nat) (m:List SV) (k:Nat) (i:Int) (v:Value):endsV (ERb D ys) 10 100 (SM.at (h3RN (.sl 3 0 k none) nilE i) 6 (obRN l1 l2 n1 n2 [rowsQ m])) (ff [0] false) v=[
 Value.slice none (0:Nat) (0:Nat)=v,
 decide (i<(↑k:Int))=false]:=by kernel_rfl
theorem rz2RN (D:List EntT) (ys:EntT→List Int) (l1 l2:List SV) (n1 n2:Nat) (m o:List SV) (k r:Nat) (i:Int):endsO (ERb D ys) 10 100 (SM.at (h3RN (.sl 3 0 k none) (.sl 4 0 r none) i) 6 (obRN l1 l2 n1 n2 [rowsQ m,strR o])) (ff [0] false) (.sl 4 0 r none) 4 (.row o 9 (0,0) (some 1))=[
 (0:Nat)=(0:Nat)∧r=r∧(none:Option Nat)=none,
 o=o,
 o.all closedSV=true,
 decide (i<(↑k:Int))=false]:=by kernel_rfl
theorem rf0RN (D : List EntT) (ys : EntT → List Int) (l1 l2 : List SV) (n1 n2 : Nat) (m o o' w : List SV) (k r : Nat) (q : ByteArray) (i i' : Int) : reach (ERb D ys) 2 200 (SM.at (h3RN (.sl 3 0 k none) nilE i) 6 (obRN l1 l2 n1 n2 [rowsQ m])) (ff [0] true ++ [(2, .cells [.v (.string q)]), (8, .b false)]) [(0, 0), (1, 1), (2, 2), (3, 3)] [0, 3] (h3RN (.sl 3 0 k none) nilE i') 6 (obRN l1 l2 n1 n2 [rowsQ m]) = [
  (0 : Nat) = (0 : Nat),
  (0 : Nat) = (0 : Nat),
  Value.slice none (0 : Nat) (0 : Nat) = Value.slice none (0 : Nat) (0 : Nat),
  (0 : Nat) = (0 : Nat) ∧ k = k ∧ (none : Option Nat) = none,
  Value.slice none (0 : Nat) (0 : Nat) = Value.slice none (0 : Nat) (0 : Nat),
  Value.int IntKind.i64 (IntKind.i64.wrap (i + (1 : Int))) = Value.int IntKind.i64 i',
  l1 = l1,
  l1.all closedSV = true,
  Value.int IntKind.u64 (0 : Int) = Value.int IntKind.u64 (0 : Int),
  (0 : Nat) = (0 : Nat) ∧ n1 = n1 ∧ (none : Option Nat) = none,
  Value.int IntKind.u64 (0 : Int) = Value.int IntKind.u64 (0 : Int),
  Value.slice none (0 : Nat) (0 : Nat) = Value.slice none (0 : Nat) (0 : Nat),
  m = m,
  m.all closedSV = true,
  (!sameB
   (findE q (entsOf l1 n1))
   { p := q, v := (0 : Int), k := (0 : Int), a := none, l := (0 : Nat), c := (0 : Nat) : EntT }
   (ysN ys
   (findE q (entsOf l1 n1)))
   (ysN ys { p := q, v := (0 : Int), k := (0 : Int), a := none, l := (0 : Nat), c := (0 : Nat) : EntT })) =
   false,
  DatOK D
   (findE q (entsOf l1 n1)) ∧
   DatOK D { p := q, v := (0 : Int), k := (0 : Int), a := none, l := (0 : Nat), c := (0 : Nat) : EntT },
  Value.slice none (0 : Nat) (0 : Nat) = Value.slice none (0 : Nat) (0 : Nat),
  true = true,
  true = true,
  HoldsE l1 n1 (entsOf l1 n1),
  m[(0 : Nat) + i.toNat * (3 : Nat) + (0 : Nat)]? = some (SV.v (Value.string q)),
  inRange i k = true,
  decide (i < (↑k : Int)) = true] := by kernel_rfl
theorem rt0RN (D : List EntT) (ys : EntT → List Int) (l1 l2 : List SV) (n1 n2 : Nat) (m o o' w : List SV) (k r : Nat) (q : ByteArray) (i i' : Int) : reach (ERb D ys) 2 200 (SM.at (h3RN (.sl 3 0 k none) nilE i) 6 (obRN l1 l2 n1 n2 [rowsQ m])) (ff [0] true ++ [(2, .cells [.v (.string q)]), (8, .b true), (9, .b false)]) [(0, 0), (1, 1), (2, 2), (3, 3), (4, 5)] [0, 3, 4] (h3RN (.sl 3 0 k none) (.sl 4 0 1 none) i') 6 (obRN l1 l2 n1 n2 [rowsQ m, strR o']) = [
  (0 : Nat) = (0 : Nat),
  (0 : Nat) = (0 : Nat),
  Value.slice none (0 : Nat) (0 : Nat) = Value.slice none (0 : Nat) (0 : Nat),
  (0 : Nat) = (0 : Nat) ∧ k = k ∧ (none : Option Nat) = none,
  (0 : Nat) = (0 : Nat) ∧ (1 : Nat) = (1 : Nat) ∧ (none : Option Nat) = none,
  Value.int IntKind.i64 (IntKind.i64.wrap (i + (1 : Int))) = Value.int IntKind.i64 i',
  l1 = l1,
  l1.all closedSV = true,
  Value.int IntKind.u64 (0 : Int) = Value.int IntKind.u64 (0 : Int),
  (0 : Nat) = (0 : Nat) ∧ n1 = n1 ∧ (none : Option Nat) = none,
  Value.int IntKind.u64 (0 : Int) = Value.int IntKind.u64 (0 : Int),
  Value.slice none (0 : Nat) (0 : Nat) = Value.slice none (0 : Nat) (0 : Nat),
  m = m,
  m.all closedSV = true,
  [] ++
   List.take ((1 : Nat) * (1 : Nat))
   (List.drop (0 : Nat)
   (splice
   (List.replicate (1 : Nat)
   (List.map SV.v
   { toList := [Value.string { data := { toList := [] : Array UInt8 } : ByteArray }] :
   Array Value }.toList)).flatten
   ((0 : Nat) * (1 : Nat)) [SV.v (Value.string q)])) =
   o',
  o'.all closedSV = true,
  false = false,
  (!sameB
   (findE q (entsOf l1 n1))
   { p := q, v := (0 : Int), k := (0 : Int), a := none, l := (0 : Nat), c := (0 : Nat) : EntT }
   (ysN ys
   (findE q (entsOf l1 n1)))
   (ysN ys { p := q, v := (0 : Int), k := (0 : Int), a := none, l := (0 : Nat), c := (0 : Nat) : EntT })) =
   true,
  DatOK D
   (findE q (entsOf l1 n1)) ∧
   DatOK D { p := q, v := (0 : Int), k := (0 : Int), a := none, l := (0 : Nat), c := (0 : Nat) : EntT },
  Value.slice none (0 : Nat) (0 : Nat) = Value.slice none (0 : Nat) (0 : Nat),
  true = true,
  true = true,
  HoldsE l1 n1 (entsOf l1 n1),
  m[(0 : Nat) + i.toNat * (3 : Nat) + (0 : Nat)]? = some (SV.v (Value.string q)),
  inRange i k = true,
  decide (i < (↑k : Int)) = true] := by kernel_rfl
theorem rf1RN (D : List EntT) (ys : EntT → List Int) (l1 l2 : List SV) (n1 n2 : Nat) (m o o' w : List SV) (k r : Nat) (q : ByteArray) (i i' : Int) : reach (ERb D ys) 2 200 (SM.at (h3RN (.sl 3 0 k none) (.sl 4 0 r none) i) 6 (obRN l1 l2 n1 n2 [rowsQ m, strR o])) (ff [0] true ++ [(2, .cells [.v (.string q)]), (8, .b false)]) [(0, 0), (1, 1), (2, 2), (3, 3), (4, 4)] [0, 3, 4] (h3RN (.sl 3 0 k none) (.sl 4 0 r none) i') 6 (obRN l1 l2 n1 n2 [rowsQ m, strR o]) = [
  (0 : Nat) = (0 : Nat),
  (0 : Nat) = (0 : Nat),
  Value.slice none (0 : Nat) (0 : Nat) = Value.slice none (0 : Nat) (0 : Nat),
  (0 : Nat) = (0 : Nat) ∧ k = k ∧ (none : Option Nat) = none,
  (0 : Nat) = (0 : Nat) ∧ r = r ∧ (none : Option Nat) = none,
  Value.int IntKind.i64 (IntKind.i64.wrap (i + (1 : Int))) = Value.int IntKind.i64 i',
  l1 = l1,
  l1.all closedSV = true,
  Value.int IntKind.u64 (0 : Int) = Value.int IntKind.u64 (0 : Int),
  (0 : Nat) = (0 : Nat) ∧ n1 = n1 ∧ (none : Option Nat) = none,
  Value.int IntKind.u64 (0 : Int) = Value.int IntKind.u64 (0 : Int),
  Value.slice none (0 : Nat) (0 : Nat) = Value.slice none (0 : Nat) (0 : Nat),
  m = m,
  m.all closedSV = true,
  o = o,
  o.all closedSV = true,
  (!sameB
   (findE q (entsOf l1 n1))
   { p := q, v := (0 : Int), k := (0 : Int), a := none, l := (0 : Nat), c := (0 : Nat) : EntT }
   (ysN ys
   (findE q (entsOf l1 n1)))
   (ysN ys { p := q, v := (0 : Int), k := (0 : Int), a := none, l := (0 : Nat), c := (0 : Nat) : EntT })) =
   false,
  DatOK D
   (findE q (entsOf l1 n1)) ∧
   DatOK D { p := q, v := (0 : Int), k := (0 : Int), a := none, l := (0 : Nat), c := (0 : Nat) : EntT },
  Value.slice none (0 : Nat) (0 : Nat) = Value.slice none (0 : Nat) (0 : Nat),
  true = true,
  true = true,
  HoldsE l1 n1 (entsOf l1 n1),
  m[(0 : Nat) + i.toNat * (3 : Nat) + (0 : Nat)]? = some (SV.v (Value.string q)),
  inRange i k = true,
  decide (i < (↑k : Int)) = true] := by kernel_rfl
theorem rt1RN (D : List EntT) (ys : EntT → List Int) (l1 l2 : List SV) (n1 n2 : Nat) (m o o' w : List SV) (k r : Nat) (q : ByteArray) (i i' : Int) : reach (ERb D ys) 2 200 (SM.at (h3RN (.sl 3 0 k none) (.sl 4 0 r none) i) 6 (obRN l1 l2 n1 n2 [rowsQ m, strR o])) (ff [0] true ++ [(2, .cells [.v (.string q)]), (8, .b true), (9, .app o w)]) [(0, 0), (1, 1), (2, 2), (3, 3), (4, 6)] [0, 3, 4] (h3RN (.sl 3 0 k none) (.sl 4 0 (r + 1) none) i') 6 (obRN l1 l2 n1 n2 [rowsQ m, strR o']) = [
  (0 : Nat) = (0 : Nat),
  (0 : Nat) = (0 : Nat),
  Value.slice none (0 : Nat) (0 : Nat) = Value.slice none (0 : Nat) (0 : Nat),
  (0 : Nat) = (0 : Nat) ∧ k = k ∧ (none : Option Nat) = none,
  (0 : Nat) = (0 : Nat) ∧ r + (1 : Nat) = r + (1 : Nat) ∧ (none : Option Nat) = none,
  Value.int IntKind.i64 (IntKind.i64.wrap (i + (1 : Int))) = Value.int IntKind.i64 i',
  l1 = l1,
  l1.all closedSV = true,
  Value.int IntKind.u64 (0 : Int) = Value.int IntKind.u64 (0 : Int),
  (0 : Nat) = (0 : Nat) ∧ n1 = n1 ∧ (none : Option Nat) = none,
  Value.int IntKind.u64 (0 : Int) = Value.int IntKind.u64 (0 : Int),
  Value.slice none (0 : Nat) (0 : Nat) = Value.slice none (0 : Nat) (0 : Nat),
  m = m,
  m.all closedSV = true,
  o ++ w = o',
  o'.all closedSV = true,
  ((List.take ((1 : Nat) * (1 : Nat))
   (List.drop (0 : Nat)
   (splice
   (List.replicate (1 : Nat)
   (List.map SV.v
   { toList := [Value.string { data := { toList := [] : Array UInt8 } : ByteArray }] :
   Array Value }.toList)).flatten
   ((0 : Nat) * (1 : Nat)) [SV.v (Value.string q)])) =
   w ∧
   w.length = (1 : Nat) * (1 : Nat)) ∧
   (1 : Nat) ≠ (0 : Nat) ∧
   ((2 : Nat) * (r + (1 : Nat)) + (1024 : Nat)) * (16 : Nat) ≤ (140737488355328 : Nat)) ∧
   List.take (r * (1 : Nat)) o = o ∧
   o.length = r * (1 : Nat) ∧ w.all SV.flat = true,
  (!sameB
   (findE q (entsOf l1 n1))
   { p := q, v := (0 : Int), k := (0 : Int), a := none, l := (0 : Nat), c := (0 : Nat) : EntT }
   (ysN ys
   (findE q (entsOf l1 n1)))
   (ysN ys { p := q, v := (0 : Int), k := (0 : Int), a := none, l := (0 : Nat), c := (0 : Nat) : EntT })) =
   true,
  DatOK D
   (findE q (entsOf l1 n1)) ∧
   DatOK D { p := q, v := (0 : Int), k := (0 : Int), a := none, l := (0 : Nat), c := (0 : Nat) : EntT },
  Value.slice none (0 : Nat) (0 : Nat) = Value.slice none (0 : Nat) (0 : Nat),
  true = true,
  true = true,
  HoldsE l1 n1 (entsOf l1 n1),
  m[(0 : Nat) + i.toNat * (3 : Nat) + (0 : Nat)]? = some (SV.v (Value.string q)),
  inRange i k = true,
  decide (i < (↑k : Int)) = true] := by kernel_rfl
def obNR (l1 l2:List SV) (n1 n2:Nat) (r:List (Option (SO × Bool))):List (Option (SO × Bool)):=[rowRe l2,bx22 0 (.v (.slice none 0 0)),bx22 0 (.sl 0 0 n2 none)]++r
noncomputable def entNR (D:List EntT) (ys:EntT→List Int) (l1 l2:List SV) (n1 n2:Nat):SM:=(enterS (ERb D ys) 10 [.agg [.v (.int .u64 0),.v (.slice none 0 0)],.agg [.v (.int .u64 0),.sl 0 0 n2 none]] (memOf 6 1 0 [rowRe l2])).getD noSM
noncomputable def td1NR:List SI:=todoL (ERb [] fun _=>[]) 2 100 (entNR [] (fun _=>[]) [] [] 0 0) [(1000,.b true)]
noncomputable def h1NR (x:SV) (i:Int):SF:={ fn:=10,tm:=tmOf 67 7 ([.junk,.junk,.ptr 1 0,.ptr 2 0,.v (.slice none 0 0),x,.v (.int .i64 i)]++List.replicate 60 .junk),todo:=td1NR,defers:=[],ret:=false,kind:=.normal,ro:=none }
noncomputable def td2NR:List SI:=todoL (ERb [] fun _=>[]) 2 100 (SM.at (h1NR nilE 0) 6 (obNR [] [] 0 0 [])) (ff [0] false)
noncomputable def h2NR (x:SV) (i:Int):SF:={ fn:=10,tm:=tmOf 67 7 ([.junk,.junk,.ptr 1 0,.ptr 2 0,.v (.slice none 0 0),x,.junk,.v (.int .i64 i)]++List.replicate 59 .junk),todo:=td2NR,defers:=[],ret:=false,kind:=.normal,ro:=none }
noncomputable def td3NR:List SI:=todoL (ERb [] fun _=>[]) 2 100 (SM.at (h2NR nilE 0) 6 (obNR [] [] 0 0 [])) (ff [0] false)
noncomputable def h3NR (x y:SV) (i:Int):SF:={ fn:=10,tm:=tmOf 67 7 ([.junk,.junk,.ptr 1 0,.ptr 2 0,.v (.slice none 0 0),x,.junk,.junk,y,.v (.int .i64 i)]++List.replicate 57 .junk),todo:=td3NR,defers:=[],ret:=false,kind:=.normal,ro:=none }
theorem ra0NR (D:List EntT) (ys:EntT→List Int) (l1 l2:List SV) (n1 n2:Nat):reach (ERb D ys) 2 100 (entNR D ys l1 l2 n1 n2) [(1000,.b true)] [(0,0),(1,1),(2,2)] [0] (h1NR nilE 0) 6 (obNR l1 l2 n1 n2 [])=[
 (0:Nat)=(0:Nat),
 (0:Nat)=(0:Nat),
 Value.slice none (0:Nat) (0:Nat)=Value.slice none (0:Nat) (0:Nat),
 Value.slice none (0:Nat) (0:Nat)=Value.slice none (0:Nat) (0:Nat),
 Value.int IntKind.i64 (0:Int)=Value.int IntKind.i64 (0:Int),
 l2=l2,
 l2.all closedSV=true,
 Value.int IntKind.u64 (0:Int)=Value.int IntKind.u64 (0:Int),
 Value.slice none (0:Nat) (0:Nat)=Value.slice none (0:Nat) (0:Nat),
 Value.int IntKind.u64 (0:Int)=Value.int IntKind.u64 (0:Int),
 (0:Nat)=(0:Nat)∧n2=n2∧(none:Option Nat)=none]:=by kernel_rfl
theorem rx1NR (D:List EntT) (ys:EntT→List Int) (l1 l2:List SV) (n1 n2:Nat) (i:Int):reach (ERb D ys) 2 100 (SM.at (h1NR nilE i) 6 (obNR l1 l2 n1 n2 [])) (ff [0] false) [(0,0),(1,1),(2,2)] [0] (h2NR nilE 0) 6 (obNR l1 l2 n1 n2 [])=[
 (0:Nat)=(0:Nat),
 (0:Nat)=(0:Nat),
 Value.slice none (0:Nat) (0:Nat)=Value.slice none (0:Nat) (0:Nat),
 Value.slice none (0:Nat) (0:Nat)=Value.slice none (0:Nat) (0:Nat),
 Value.int IntKind.i64 (0:Int)=Value.int IntKind.i64 (0:Int),
 l2=l2,
 l2.all closedSV=true,
 Value.int IntKind.u64 (0:Int)=Value.int IntKind.u64 (0:Int),
 Value.slice none (0:Nat) (0:Nat)=Value.slice none (0:Nat) (0:Nat),
 Value.int IntKind.u64 (0:Int)=Value.int IntKind.u64 (0:Int),
 (0:Nat)=(0:Nat)∧n2=n2∧(none:Option Nat)=none,
 decide (i<(↑(0:Nat):Int))=false]:=by kernel_rfl
theorem rb2NR (D : List EntT) (ys : EntT → List Int) (l1 l2 : List SV) (n1 n2 : Nat) (m' : List SV) (k k' : Nat) (q : ByteArray) (i i' : Int) : reach (ERb D ys) 2 100 (SM.at (h2NR nilE i) 6 (obNR l1 l2 n1 n2 [])) (ff [0] true ++ [(2, .cells [.v (.string q)])]) [(0, 0), (1, 1), (2, 2), (3, 3)] [0, 3] (h2NR (.sl 3 0 k' none) i') 6 (obNR l1 l2 n1 n2 [rowsQ m']) = [
  (0 : Nat) = (0 : Nat),
  (0 : Nat) = (0 : Nat),
  Value.slice none (0 : Nat) (0 : Nat) = Value.slice none (0 : Nat) (0 : Nat),
  (0 : Nat) = (0 : Nat) ∧ (putQ [] q).length = k' ∧ (none : Option Nat) = none,
  Value.int IntKind.i64 (IntKind.i64.wrap (i + (1 : Int))) = Value.int IntKind.i64 i',
  l2 = l2,
  l2.all closedSV = true,
  Value.int IntKind.u64 (0 : Int) = Value.int IntKind.u64 (0 : Int),
  Value.slice none (0 : Nat) (0 : Nat) = Value.slice none (0 : Nat) (0 : Nat),
  Value.int IntKind.u64 (0 : Int) = Value.int IntKind.u64 (0 : Int),
  (0 : Nat) = (0 : Nat) ∧ n2 = n2 ∧ (none : Option Nat) = none,
  List.map SV.v (vQ (putQ [] q)) = m',
  m'.all closedSV = true,
  Value.slice none (0 : Nat) (0 : Nat) = Value.slice none (0 : Nat) (0 : Nat) ∧
   Value.agg { toList := [Value.int IntKind.i64 (2 : Int), Value.slice none (0 : Nat) (0 : Nat)] : Array Value } =
   Value.agg { toList := [Value.int IntKind.i64 (2 : Int), Value.slice none (0 : Nat) (0 : Nat)] : Array Value },
  l2[(0 : Nat) + i.toNat * (4 : Nat) + (0 : Nat)]? = some (SV.v (Value.string q)),
  inRange i n2 = true,
  decide (i < (↑n2 : Int)) = true] := by kernel_rfl
theorem rc2NR (D : List EntT) (ys : EntT → List Int) (l1 l2 : List SV) (n1 n2 : Nat) (m m' : List SV) (k k' : Nat) (q : ByteArray) (i i' : Int) : reach (ERb D ys) 2 100 (SM.at (h2NR (.sl 3 0 k none) i) 6 (obNR l1 l2 n1 n2 [rowsQ m])) (ff [0] true ++ [(2, .cells [.v (.string q)])]) [(0, 0), (1, 1), (2, 2), (3, 4)] [0, 3] (h2NR (.sl 3 0 k' none) i') 6 (obNR l1 l2 n1 n2 [rowsQ m']) = [
  (0 : Nat) = (0 : Nat),
  (0 : Nat) = (0 : Nat),
  Value.slice none (0 : Nat) (0 : Nat) = Value.slice none (0 : Nat) (0 : Nat),
  (0 : Nat) = (0 : Nat) ∧ (putQ (leavesOf m k) q).length = k' ∧ (none : Option Nat) = none,
  Value.int IntKind.i64 (IntKind.i64.wrap (i + (1 : Int))) = Value.int IntKind.i64 i',
  l2 = l2,
  l2.all closedSV = true,
  Value.int IntKind.u64 (0 : Int) = Value.int IntKind.u64 (0 : Int),
  Value.slice none (0 : Nat) (0 : Nat) = Value.slice none (0 : Nat) (0 : Nat),
  Value.int IntKind.u64 (0 : Int) = Value.int IntKind.u64 (0 : Int),
  (0 : Nat) = (0 : Nat) ∧ n2 = n2 ∧ (none : Option Nat) = none,
  List.map SV.v (vQ (putQ (leavesOf m k) q)) = m',
  m'.all closedSV = true,
  HoldsQ m k (leavesOf m k) ∧
   (54 : Nat) = (54 : Nat) ∧
   ((0 : Nat), (0 : Nat)) = ((0 : Nat), (0 : Nat)) ∧
   some (3 : Nat) = some (3 : Nat) ∧
   Value.agg { toList := [Value.int IntKind.i64 (2 : Int), Value.slice none (0 : Nat) (0 : Nat)] : Array Value } =
   Value.agg
   { toList := [Value.int IntKind.i64 (2 : Int), Value.slice none (0 : Nat) (0 : Nat)] : Array Value } ∧
   q.size ≤ (1000000000 : Nat) ∧ ∀ (e : ByteArray), e ∈ leavesOf m k → e.size ≤ (1000000000 : Nat),
  l2[(0 : Nat) + i.toNat * (4 : Nat) + (0 : Nat)]? = some (SV.v (Value.string q)),
  inRange i n2 = true,
  decide (i < (↑n2 : Int)) = true] := by kernel_rfl
theorem ry2NR (D:List EntT) (ys:EntT→List Int) (l1 l2:List SV) (n1 n2:Nat) (m:List SV) (k:Nat) (i:Int):reach (ERb D ys) 2 100 (SM.at (h2NR (.sl 3 0 k none) i) 6 (obNR l1 l2 n1 n2 [rowsQ m])) (ff [0] false) [(0,0),(1,1),(2,2),(3,3)] [0,3] (h3NR (.sl 3 0 k none) nilE 0) 6 (obNR l1 l2 n1 n2 [rowsQ m])=[
 (0:Nat)=(0:Nat),
 (0:Nat)=(0:Nat),
 Value.slice none (0:Nat) (0:Nat)=Value.slice none (0:Nat) (0:Nat),
 (0:Nat)=(0:Nat)∧k=k∧(none:Option Nat)=none,
 Value.slice none (0:Nat) (0:Nat)=Value.slice none (0:Nat) (0:Nat),
 Value.int IntKind.i64 (0:Int)=Value.int IntKind.i64 (0:Int),
 l2=l2,
 l2.all closedSV=true,
 Value.int IntKind.u64 (0:Int)=Value.int IntKind.u64 (0:Int),
 Value.slice none (0:Nat) (0:Nat)=Value.slice none (0:Nat) (0:Nat),
 Value.int IntKind.u64 (0:Int)=Value.int IntKind.u64 (0:Int),
 (0:Nat)=(0:Nat)∧n2=n2∧(none:Option Nat)=none,
 m=m,
 m.all closedSV=true,
 decide (i<(↑n2:Int))=false]:=by kernel_rfl
theorem rz1NR (D:List EntT) (ys:EntT→List Int) (l1 l2:List SV) (n1 n2:Nat) (m:List SV) (k:Nat) (i:Int) (v:Value):endsV (ERb D ys) 10 100 (SM.at (h3NR (.sl 3 0 k none) nilE i) 6 (obNR l1 l2 n1 n2 [rowsQ m])) (ff [0] false) v=[
 Value.slice none (0:Nat) (0:Nat)=v,
 decide (i<(↑k:Int))=false]:=by kernel_rfl
theorem rz2NR (D:List EntT) (ys:EntT→List Int) (l1 l2:List SV) (n1 n2:Nat) (m o:List SV) (k r:Nat) (i:Int):endsO (ERb D ys) 10 100 (SM.at (h3NR (.sl 3 0 k none) (.sl 4 0 r none) i) 6 (obNR l1 l2 n1 n2 [rowsQ m,strR o])) (ff [0] false) (.sl 4 0 r none) 4 (.row o 9 (0,0) (some 1))=[
 (0:Nat)=(0:Nat)∧r=r∧(none:Option Nat)=none,
 o=o,
 o.all closedSV=true,
 decide (i<(↑k:Int))=false]:=by kernel_rfl
theorem rf0NR (D : List EntT) (ys : EntT → List Int) (l1 l2 : List SV) (n1 n2 : Nat) (m o o' w : List SV) (k r : Nat) (q : ByteArray) (i i' : Int) : reach (ERb D ys) 2 200 (SM.at (h3NR (.sl 3 0 k none) nilE i) 6 (obNR l1 l2 n1 n2 [rowsQ m])) (ff [0] true ++ [(2, .cells [.v (.string q)]), (8, .b false)]) [(0, 0), (1, 1), (2, 2), (3, 3)] [0, 3] (h3NR (.sl 3 0 k none) nilE i') 6 (obNR l1 l2 n1 n2 [rowsQ m]) = [
  (0 : Nat) = (0 : Nat),
  (0 : Nat) = (0 : Nat),
  Value.slice none (0 : Nat) (0 : Nat) = Value.slice none (0 : Nat) (0 : Nat),
  (0 : Nat) = (0 : Nat) ∧ k = k ∧ (none : Option Nat) = none,
  Value.slice none (0 : Nat) (0 : Nat) = Value.slice none (0 : Nat) (0 : Nat),
  Value.int IntKind.i64 (IntKind.i64.wrap (i + (1 : Int))) = Value.int IntKind.i64 i',
  l2 = l2,
  l2.all closedSV = true,
  Value.int IntKind.u64 (0 : Int) = Value.int IntKind.u64 (0 : Int),
  Value.slice none (0 : Nat) (0 : Nat) = Value.slice none (0 : Nat) (0 : Nat),
  Value.int IntKind.u64 (0 : Int) = Value.int IntKind.u64 (0 : Int),
  (0 : Nat) = (0 : Nat) ∧ n2 = n2 ∧ (none : Option Nat) = none,
  m = m,
  m.all closedSV = true,
  (!sameB { p := q, v := (0 : Int), k := (0 : Int), a := none, l := (0 : Nat), c := (0 : Nat) : EntT }
   (findE q (entsOf l2 n2))
   (ysN ys { p := q, v := (0 : Int), k := (0 : Int), a := none, l := (0 : Nat), c := (0 : Nat) : EntT })
   (ysN ys
   (findE q (entsOf l2 n2)))) =
   false,
  DatOK D { p := q, v := (0 : Int), k := (0 : Int), a := none, l := (0 : Nat), c := (0 : Nat) : EntT } ∧
   DatOK D
   (findE q (entsOf l2 n2)),
  HoldsE l2 n2 (entsOf l2 n2),
  (0 : Nat) = (0 : Nat) ∧ n2 = n2 ∧ (none : Option Nat) = none,
  true = true,
  Value.slice none (0 : Nat) (0 : Nat) = Value.slice none (0 : Nat) (0 : Nat),
  m[(0 : Nat) + i.toNat * (3 : Nat) + (0 : Nat)]? = some (SV.v (Value.string q)),
  inRange i k = true,
  decide (i < (↑k : Int)) = true] := by kernel_rfl
theorem rt0NR (D : List EntT) (ys : EntT → List Int) (l1 l2 : List SV) (n1 n2 : Nat) (m o o' w : List SV) (k r : Nat) (q : ByteArray) (i i' : Int) : reach (ERb D ys) 2 200 (SM.at (h3NR (.sl 3 0 k none) nilE i) 6 (obNR l1 l2 n1 n2 [rowsQ m])) (ff [0] true ++ [(2, .cells [.v (.string q)]), (8, .b true), (9, .b false)]) [(0, 0), (1, 1), (2, 2), (3, 3), (4, 5)] [0, 3, 4] (h3NR (.sl 3 0 k none) (.sl 4 0 1 none) i') 6 (obNR l1 l2 n1 n2 [rowsQ m, strR o']) = [
  (0 : Nat) = (0 : Nat),
  (0 : Nat) = (0 : Nat),
  Value.slice none (0 : Nat) (0 : Nat) = Value.slice none (0 : Nat) (0 : Nat),
  (0 : Nat) = (0 : Nat) ∧ k = k ∧ (none : Option Nat) = none,
  (0 : Nat) = (0 : Nat) ∧ (1 : Nat) = (1 : Nat) ∧ (none : Option Nat) = none,
  Value.int IntKind.i64 (IntKind.i64.wrap (i + (1 : Int))) = Value.int IntKind.i64 i',
  l2 = l2,
  l2.all closedSV = true,
  Value.int IntKind.u64 (0 : Int) = Value.int IntKind.u64 (0 : Int),
  Value.slice none (0 : Nat) (0 : Nat) = Value.slice none (0 : Nat) (0 : Nat),
  Value.int IntKind.u64 (0 : Int) = Value.int IntKind.u64 (0 : Int),
  (0 : Nat) = (0 : Nat) ∧ n2 = n2 ∧ (none : Option Nat) = none,
  m = m,
  m.all closedSV = true,
  [] ++
   List.take ((1 : Nat) * (1 : Nat))
   (List.drop (0 : Nat)
   (splice
   (List.replicate (1 : Nat)
   (List.map SV.v
   { toList := [Value.string { data := { toList := [] : Array UInt8 } : ByteArray }] :
   Array Value }.toList)).flatten
   ((0 : Nat) * (1 : Nat)) [SV.v (Value.string q)])) =
   o',
  o'.all closedSV = true,
  false = false,
  (!sameB { p := q, v := (0 : Int), k := (0 : Int), a := none, l := (0 : Nat), c := (0 : Nat) : EntT }
   (findE q (entsOf l2 n2))
   (ysN ys { p := q, v := (0 : Int), k := (0 : Int), a := none, l := (0 : Nat), c := (0 : Nat) : EntT })
   (ysN ys
   (findE q (entsOf l2 n2)))) =
   true,
  DatOK D { p := q, v := (0 : Int), k := (0 : Int), a := none, l := (0 : Nat), c := (0 : Nat) : EntT } ∧
   DatOK D
   (findE q (entsOf l2 n2)),
  HoldsE l2 n2 (entsOf l2 n2),
  (0 : Nat) = (0 : Nat) ∧ n2 = n2 ∧ (none : Option Nat) = none,
  true = true,
  Value.slice none (0 : Nat) (0 : Nat) = Value.slice none (0 : Nat) (0 : Nat),
  m[(0 : Nat) + i.toNat * (3 : Nat) + (0 : Nat)]? = some (SV.v (Value.string q)),
  inRange i k = true,
  decide (i < (↑k : Int)) = true] := by kernel_rfl
theorem rf1NR (D : List EntT) (ys : EntT → List Int) (l1 l2 : List SV) (n1 n2 : Nat) (m o o' w : List SV) (k r : Nat) (q : ByteArray) (i i' : Int) : reach (ERb D ys) 2 200 (SM.at (h3NR (.sl 3 0 k none) (.sl 4 0 r none) i) 6 (obNR l1 l2 n1 n2 [rowsQ m, strR o])) (ff [0] true ++ [(2, .cells [.v (.string q)]), (8, .b false)]) [(0, 0), (1, 1), (2, 2), (3, 3), (4, 4)] [0, 3, 4] (h3NR (.sl 3 0 k none) (.sl 4 0 r none) i') 6 (obNR l1 l2 n1 n2 [rowsQ m, strR o]) = [
  (0 : Nat) = (0 : Nat),
  (0 : Nat) = (0 : Nat),
  Value.slice none (0 : Nat) (0 : Nat) = Value.slice none (0 : Nat) (0 : Nat),
  (0 : Nat) = (0 : Nat) ∧ k = k ∧ (none : Option Nat) = none,
  (0 : Nat) = (0 : Nat) ∧ r = r ∧ (none : Option Nat) = none,
  Value.int IntKind.i64 (IntKind.i64.wrap (i + (1 : Int))) = Value.int IntKind.i64 i',
  l2 = l2,
  l2.all closedSV = true,
  Value.int IntKind.u64 (0 : Int) = Value.int IntKind.u64 (0 : Int),
  Value.slice none (0 : Nat) (0 : Nat) = Value.slice none (0 : Nat) (0 : Nat),
  Value.int IntKind.u64 (0 : Int) = Value.int IntKind.u64 (0 : Int),
  (0 : Nat) = (0 : Nat) ∧ n2 = n2 ∧ (none : Option Nat) = none,
  m = m,
  m.all closedSV = true,
  o = o,
  o.all closedSV = true,
  (!sameB { p := q, v := (0 : Int), k := (0 : Int), a := none, l := (0 : Nat), c := (0 : Nat) : EntT }
   (findE q (entsOf l2 n2))
   (ysN ys { p := q, v := (0 : Int), k := (0 : Int), a := none, l := (0 : Nat), c := (0 : Nat) : EntT })
   (ysN ys
   (findE q (entsOf l2 n2)))) =
   false,
  DatOK D { p := q, v := (0 : Int), k := (0 : Int), a := none, l := (0 : Nat), c := (0 : Nat) : EntT } ∧
   DatOK D
   (findE q (entsOf l2 n2)),
  HoldsE l2 n2 (entsOf l2 n2),
  (0 : Nat) = (0 : Nat) ∧ n2 = n2 ∧ (none : Option Nat) = none,
  true = true,
  Value.slice none (0 : Nat) (0 : Nat) = Value.slice none (0 : Nat) (0 : Nat),
  m[(0 : Nat) + i.toNat * (3 : Nat) + (0 : Nat)]? = some (SV.v (Value.string q)),
  inRange i k = true,
  decide (i < (↑k : Int)) = true] := by kernel_rfl
theorem rt1NR (D : List EntT) (ys : EntT → List Int) (l1 l2 : List SV) (n1 n2 : Nat) (m o o' w : List SV) (k r : Nat) (q : ByteArray) (i i' : Int) : reach (ERb D ys) 2 200 (SM.at (h3NR (.sl 3 0 k none) (.sl 4 0 r none) i) 6 (obNR l1 l2 n1 n2 [rowsQ m, strR o])) (ff [0] true ++ [(2, .cells [.v (.string q)]), (8, .b true), (9, .app o w)]) [(0, 0), (1, 1), (2, 2), (3, 3), (4, 6)] [0, 3, 4] (h3NR (.sl 3 0 k none) (.sl 4 0 (r + 1) none) i') 6 (obNR l1 l2 n1 n2 [rowsQ m, strR o']) = [
  (0 : Nat) = (0 : Nat),
  (0 : Nat) = (0 : Nat),
  Value.slice none (0 : Nat) (0 : Nat) = Value.slice none (0 : Nat) (0 : Nat),
  (0 : Nat) = (0 : Nat) ∧ k = k ∧ (none : Option Nat) = none,
  (0 : Nat) = (0 : Nat) ∧ r + (1 : Nat) = r + (1 : Nat) ∧ (none : Option Nat) = none,
  Value.int IntKind.i64 (IntKind.i64.wrap (i + (1 : Int))) = Value.int IntKind.i64 i',
  l2 = l2,
  l2.all closedSV = true,
  Value.int IntKind.u64 (0 : Int) = Value.int IntKind.u64 (0 : Int),
  Value.slice none (0 : Nat) (0 : Nat) = Value.slice none (0 : Nat) (0 : Nat),
  Value.int IntKind.u64 (0 : Int) = Value.int IntKind.u64 (0 : Int),
  (0 : Nat) = (0 : Nat) ∧ n2 = n2 ∧ (none : Option Nat) = none,
  m = m,
  m.all closedSV = true,
  o ++ w = o',
  o'.all closedSV = true,
  ((List.take ((1 : Nat) * (1 : Nat))
   (List.drop (0 : Nat)
   (splice
   (List.replicate (1 : Nat)
   (List.map SV.v
   { toList := [Value.string { data := { toList := [] : Array UInt8 } : ByteArray }] :
   Array Value }.toList)).flatten
   ((0 : Nat) * (1 : Nat)) [SV.v (Value.string q)])) =
   w ∧
   w.length = (1 : Nat) * (1 : Nat)) ∧
   (1 : Nat) ≠ (0 : Nat) ∧
   ((2 : Nat) * (r + (1 : Nat)) + (1024 : Nat)) * (16 : Nat) ≤ (140737488355328 : Nat)) ∧
   List.take (r * (1 : Nat)) o = o ∧
   o.length = r * (1 : Nat) ∧ w.all SV.flat = true,
  (!sameB { p := q, v := (0 : Int), k := (0 : Int), a := none, l := (0 : Nat), c := (0 : Nat) : EntT }
   (findE q (entsOf l2 n2))
   (ysN ys { p := q, v := (0 : Int), k := (0 : Int), a := none, l := (0 : Nat), c := (0 : Nat) : EntT })
   (ysN ys
   (findE q (entsOf l2 n2)))) =
   true,
  DatOK D { p := q, v := (0 : Int), k := (0 : Int), a := none, l := (0 : Nat), c := (0 : Nat) : EntT } ∧
   DatOK D
   (findE q (entsOf l2 n2)),
  HoldsE l2 n2 (entsOf l2 n2),
  (0 : Nat) = (0 : Nat) ∧ n2 = n2 ∧ (none : Option Nat) = none,
  true = true,
  Value.slice none (0 : Nat) (0 : Nat) = Value.slice none (0 : Nat) (0 : Nat),
  m[(0 : Nat) + i.toNat * (3 : Nat) + (0 : Nat)]? = some (SV.v (Value.string q)),
  inRange i k = true,
  decide (i < (↑k : Int)) = true] := by kernel_rfl
def obNN (l1 l2:List SV) (n1 n2:Nat) (r:List (Option (SO × Bool))):List (Option (SO × Bool)):=[bx22 0 (.v (.slice none 0 0)),bx22 0 (.v (.slice none 0 0))]++r
noncomputable def entNN (D:List EntT) (ys:EntT→List Int) (l1 l2:List SV) (n1 n2:Nat):SM:=(enterS (ERb D ys) 10 [.agg [.v (.int .u64 0),.v (.slice none 0 0)],.agg [.v (.int .u64 0),.v (.slice none 0 0)]] (memOf 6 0 0 [])).getD noSM
noncomputable def td1NN:List SI:=todoL (ERb [] fun _=>[]) 2 100 (entNN [] (fun _=>[]) [] [] 0 0) [(1000,.b true)]
noncomputable def h1NN (x:SV) (i:Int):SF:={ fn:=10,tm:=tmOf 67 7 ([.junk,.junk,.ptr 0 0,.ptr 1 0,.v (.slice none 0 0),x,.v (.int .i64 i)]++List.replicate 60 .junk),todo:=td1NN,defers:=[],ret:=false,kind:=.normal,ro:=none }
noncomputable def td2NN:List SI:=todoL (ERb [] fun _=>[]) 2 100 (SM.at (h1NN nilE 0) 6 (obNN [] [] 0 0 [])) (ff [0] false)
noncomputable def h2NN (x:SV) (i:Int):SF:={ fn:=10,tm:=tmOf 67 7 ([.junk,.junk,.ptr 0 0,.ptr 1 0,.v (.slice none 0 0),x,.junk,.v (.int .i64 i)]++List.replicate 59 .junk),todo:=td2NN,defers:=[],ret:=false,kind:=.normal,ro:=none }
noncomputable def td3NN:List SI:=todoL (ERb [] fun _=>[]) 2 100 (SM.at (h2NN nilE 0) 6 (obNN [] [] 0 0 [])) (ff [0] false)
noncomputable def h3NN (x y:SV) (i:Int):SF:={ fn:=10,tm:=tmOf 67 7 ([.junk,.junk,.ptr 0 0,.ptr 1 0,.v (.slice none 0 0),x,.junk,.junk,y,.v (.int .i64 i)]++List.replicate 57 .junk),todo:=td3NN,defers:=[],ret:=false,kind:=.normal,ro:=none }
theorem ra0NN (D:List EntT) (ys:EntT→List Int) (l1 l2:List SV) (n1 n2:Nat):reach (ERb D ys) 2 100 (entNN D ys l1 l2 n1 n2) [(1000,.b true)] [(0,0),(1,1)] [] (h1NN nilE 0) 6 (obNN l1 l2 n1 n2 [])=[
 (0:Nat)=(0:Nat),
 (0:Nat)=(0:Nat),
 Value.slice none (0:Nat) (0:Nat)=Value.slice none (0:Nat) (0:Nat),
 Value.slice none (0:Nat) (0:Nat)=Value.slice none (0:Nat) (0:Nat),
 Value.int IntKind.i64 (0:Int)=Value.int IntKind.i64 (0:Int),
 Value.int IntKind.u64 (0:Int)=Value.int IntKind.u64 (0:Int),
 Value.slice none (0:Nat) (0:Nat)=Value.slice none (0:Nat) (0:Nat),
 Value.int IntKind.u64 (0:Int)=Value.int IntKind.u64 (0:Int),
 Value.slice none (0:Nat) (0:Nat)=Value.slice none (0:Nat) (0:Nat)]:=by kernel_rfl
theorem rx1NN (D:List EntT) (ys:EntT→List Int) (l1 l2:List SV) (n1 n2:Nat) (i:Int):reach (ERb D ys) 2 100 (SM.at (h1NN nilE i) 6 (obNN l1 l2 n1 n2 [])) (ff [0] false) [(0,0),(1,1)] [] (h2NN nilE 0) 6 (obNN l1 l2 n1 n2 [])=[
 (0:Nat)=(0:Nat),
 (0:Nat)=(0:Nat),
 Value.slice none (0:Nat) (0:Nat)=Value.slice none (0:Nat) (0:Nat),
 Value.slice none (0:Nat) (0:Nat)=Value.slice none (0:Nat) (0:Nat),
 Value.int IntKind.i64 (0:Int)=Value.int IntKind.i64 (0:Int),
 Value.int IntKind.u64 (0:Int)=Value.int IntKind.u64 (0:Int),
 Value.slice none (0:Nat) (0:Nat)=Value.slice none (0:Nat) (0:Nat),
 Value.int IntKind.u64 (0:Int)=Value.int IntKind.u64 (0:Int),
 Value.slice none (0:Nat) (0:Nat)=Value.slice none (0:Nat) (0:Nat),
 decide (i<(↑(0:Nat):Int))=false]:=by kernel_rfl
theorem rx2NN (D:List EntT) (ys:EntT→List Int) (l1 l2:List SV) (n1 n2:Nat) (i:Int):reach (ERb D ys) 2 100 (SM.at (h2NN nilE i) 6 (obNN l1 l2 n1 n2 [])) (ff [0] false) [(0,0),(1,1)] [] (h3NN nilE nilE 0) 6 (obNN l1 l2 n1 n2 [])=[
 (0:Nat)=(0:Nat),
 (0:Nat)=(0:Nat),
 Value.slice none (0:Nat) (0:Nat)=Value.slice none (0:Nat) (0:Nat),
 Value.slice none (0:Nat) (0:Nat)=Value.slice none (0:Nat) (0:Nat),
 Value.slice none (0:Nat) (0:Nat)=Value.slice none (0:Nat) (0:Nat),
 Value.int IntKind.i64 (0:Int)=Value.int IntKind.i64 (0:Int),
 Value.int IntKind.u64 (0:Int)=Value.int IntKind.u64 (0:Int),
 Value.slice none (0:Nat) (0:Nat)=Value.slice none (0:Nat) (0:Nat),
 Value.int IntKind.u64 (0:Int)=Value.int IntKind.u64 (0:Int),
 Value.slice none (0:Nat) (0:Nat)=Value.slice none (0:Nat) (0:Nat),
 decide (i<(↑(0:Nat):Int))=false]:=by kernel_rfl
theorem rz0NN (D:List EntT) (ys:EntT→List Int) (l1 l2:List SV) (n1 n2:Nat) (i:Int) (v:Value):endsV (ERb D ys) 10 100 (SM.at (h3NN nilE nilE i) 6 (obNN l1 l2 n1 n2 [])) (ff [0] false) v=[
 Value.slice none (0:Nat) (0:Nat)=v,
 decide (i<(↑(0:Nat):Int))=false]:=by kernel_rfl
noncomputable def entGtN (s:Int) (p:ByteArray):SM:=(enterS EN0 29 [.v (.agg #[.int .u64 s,.slice none 0 0]),.v (.string p)] (memOf 6 0 0 [])).getD noSM
theorem gtn (s : Int) (p : ByteArray) (v : Value) : endsV EN0 29 60 (entGtN s p) [(1000, .b true)] v = [
  Value.agg
   {
   toList :=
   [Value.string p, Value.int IntKind.u64 (0 : Int), Value.int IntKind.i64 (0 : Int),
   Value.slice none (0 : Nat) (0 : Nat)] :
   Array Value } =
   v] := by kernel_rfl
theorem rget_nil (s:Int) (p:ByteArray) (w:World):Calls Tryz.prog 29 #[.agg #[.int .u64 s,.slice none 0 0],.string p] w fun e w'=>Below w.heap.size w w'∧e=.returned (.agg #[.string p,.int .u64 0,.int .i64 0,.slice none 0 0]):=by
 refine (calls_bareR (E:=EN0) rfl rfl (args:=[.v (.agg #[.int .u64 s,.slice none 0 0]),.v (.string p)]) (a:=[.agg #[.int .u64 s,.slice none 0 0],.string p]) (S0:=entGtN s p) (by kernel_rfl) (VRL.cons (VR.v_iff.2 rfl) (VRL.cons (VR.v_iff.2 rfl) VRL.nil)) fun cs0=>?_)
 refine Goes.endsV KN0 (n:=60) (o:=[(1000,.b true)]) (v:=.agg #[.string p,.int .u64 0,.int .i64 0,.slice none 0 0]) ?_ fun ν' M1 w1 s' w' _ hB' hr=>⟨below_of not_laid hB' hr,rfl⟩
 rw [gtn]
 simp only [Owed,and_self,and_true,true_and]
theorem put8_sum {X:World→Prop}:SumOK Tryz.prog X (27,slSumG put8S):=by
 refine slSumG_ok ⟨_,Tryz.func27,by kernel_rfl,by kernel_rfl⟩ fun args sh ys n C elem ex p h hp ν M w0 w a hr hX ha=>?_
 dsimp only [put8S] at h
 split at h
 ·rename_i u q L
  split at h
  ·rename_i lf hlf
   cases h
   obtain ⟨rfl,rfl⟩:=hp
   obtain ⟨y1,as1,rfl,q1,ha2⟩:=ha.cons_inv
   obtain ⟨y2,as2,rfl,q2,ha3⟩:=ha2.cons_inv
   obtain ⟨y3,as3,rfl,q3,ha4⟩:=ha3.cons_inv
   obtain rfl:=ha4.nil_inv
   obtain rfl:=VR.v_iff.1 q1
   obtain rfl:=VR.v_iff.1 q2
   obtain rfl:=plainV_ok hlf q3
   exact put8_nil
  ·cases h
 ·rename_i i n q L
  split at h
  ·rename_i lf hlf
   split at h
   ·rename_i ys t z x m1 hl
    cases h
    obtain ⟨hH,rfl,rfl,rfl,rfl,hq,hs⟩:=hp
    obtain ⟨hc,hn,few⟩:=hH
    generalize hE:leavesOf ys n=l at *
    subst hc hn
    obtain ⟨y1,as1,rfl,q1,ha2⟩:=ha.cons_inv
    obtain ⟨y2,as2,rfl,q2,ha3⟩:=ha2.cons_inv
    obtain ⟨y3,as3,rfl,q3,ha4⟩:=ha3.cons_inv
    obtain rfl:=ha4.nil_inv
    obtain rfl:=VR.v_iff.1 q2
    obtain rfl:=plainV_ok hlf q3
    obtain ⟨b,hb,hle,rfl⟩:=VR.sl_iff.1 q1
    obtain ⟨_,_,b',o,hb',ho,hor,_⟩:=hr.look hl
    rw [hb] at hb';cases hb'
    obtain ⟨zs,rest,rfl,hz,hx⟩:=hor
    obtain rfl:=cQ_val hz
    obtain ⟨_,b2,hb2,hsz⟩:=hx
    rw [hb] at hb2;cases hb2
    exact put8_row ho hsz hle few hq hs
   ·cases h
  ·cases h
 ·cases h
theorem get_told {args:List SV} {sh:SH} {v:Value} {pp:Prop} (h:getG args sh=some (v,pp)) (hp:pp) {ν:Val} {M:Own} {w0 w:World} {a:List Value} (hr:HR ν M w0 sh w) (ha:VRL ν args a):
  Calls Tryz.prog 29 a.toArray w fun e w'=>Below w.heap.size w w'∧e=.returned v:=by
 dsimp only [getG] at h
 split at h
 ·rename_i s i n p
  split at h
  ·rename_i ys e1 z1 x1 m1 hl
   cases h
   obtain ⟨hc,hn,hfew⟩:=hp
   generalize hE:entsOf ys n=xs at *
   subst hc hn
   obtain ⟨y1,as1,rfl,q1,ha2⟩:=ha.cons_inv
   obtain ⟨y2,as2,rfl,q2,ha3⟩:=ha2.cons_inv
   obtain rfl:=ha3.nil_inv
   obtain rfl:=VR.v_iff.1 q2
   obtain ⟨u,rfl,hu⟩:=VR.agg_iff.1 q1
   obtain ⟨y3,as3,rfl,q3,hu2⟩:=hu.cons_inv
   obtain ⟨y4,as4,rfl,q4,hu3⟩:=hu2.cons_inv
   obtain rfl:=hu3.nil_inv
   obtain rfl:=VR.v_iff.1 q3
   obtain ⟨bb,hbb,hle,rfl⟩:=VR.sl_iff.1 q4
   refine calls_row (E:=EN0) rfl rfl hr hl (cE_closed xs) (args':=fun c=>[.agg [.v (.int .u64 s),.sl 0 0 xs.length (some c)],.v (.string p)]) (S0:=fun c=>entGt (cE xs) xs.length c s p) (fun b hb=>?_) (fun c=>by kernel_rfl) fun b cs0=>?_
   ·rw [hbb] at hb;cases hb
    have hle':xs.length≤bb.2:=hle
    exact VRL.cons (VR.agg_iff.2 ⟨_,rfl,VRL.cons (VR.v_iff.2 rfl) (VRL.cons (VR.sl_iff.2 ⟨bb,rfl,hle',rfl⟩) VRL.nil)⟩) (VRL.cons (VR.v_iff.2 rfl) VRL.nil)
   ·have nx:=loopGt (w0:=w) (cs0:=cs0) (b:=b) (c:=b.2) (p:=p) (s:=s) (xs:=xs) (R:=fun e w'=>Below w.heap.size w w'∧e=.returned (.agg (eV (findE p xs)).toArray)) hfew (fun w' hw=>⟨hw,rfl⟩) xs.length 0 (by omega) fun e he=>by simp at he
    refine Goes.reach KN0 (k:=2) (n:=60) (o:=[(1000,.b true)]) (ren:=[(0,0),(1,1),(2,2)]) (eqs:=[0]) (F:=hdGt p 0) (d:=6) (l:=objG (cE xs) xs.length b.2 s) ?_ (by kernel_rfl) (fun i b h=>by rw [lay1' h];rfl) nx
    rw [gt0]
    simp only [Owed,cE_closed,and_self]
  ·cases h
 ·cases h
theorem getN_sum {X:World→Prop}:SumOK Tryz.prog X (29,plSumG getGN):=by
 refine plSumG_ok ⟨_,Tryz.func29,by kernel_rfl,by kernel_rfl⟩ fun args sh v p h hp ν M w0 w a hr hX ha=>?_
 dsimp only [getGN] at h
 split at h
 ·rename_i s u q
  cases h
  subst hp
  obtain ⟨y1,as1,rfl,q1,ha2⟩:=ha.cons_inv
  obtain ⟨y2,as2,rfl,q2,ha3⟩:=ha2.cons_inv
  obtain rfl:=ha3.nil_inv
  obtain rfl:=VR.v_iff.1 q2
  obtain ⟨g,rfl,hg⟩:=VR.agg_iff.1 q1
  obtain ⟨z1,u1,rfl,r1,hg2⟩:=hg.cons_inv
  obtain ⟨z2,u2,rfl,r2,hg3⟩:=hg2.cons_inv
  obtain rfl:=hg3.nil_inv
  obtain rfl:=VR.v_iff.1 r1
  obtain rfl:=VR.v_iff.1 r2
  exact rget_nil s q w
 ·exact get_told h hp hr ha
theorem same_sum {D:List EntT} {ys:EntT→List Int}:SumOK Tryz.prog (fun w=>∀ x∈D,Dat w x.a x.l (ys x)) (28,plSumG (sameG D ys)):=by
 have key:∀ (w:World) (x:EntT),(∀ x∈D,Dat w x.a x.l (ys x))→DatOK D x→Dat w x.a x.l (ysN ys x):=fun w x hw h=>by
  unfold ysN
  cases ha:x.a with
  | none=>
   have hl:x.l=0:=by
    rcases h with h | h
    ·exact (hw x h).2 ha
    ·exact h.2
   rw [hl];exact dat_none
  | some b=>
   rcases h with h | h
   ·have:=hw x h
    rw [ha] at this;exact this
   ·rw [ha] at h;cases h.1
 refine plSumG_ok ⟨_,Tryz.func28,by kernel_rfl,by kernel_rfl⟩ fun args sh v p h hp ν M w0 w a hr hX ha=>?_
 dsimp only [sameG] at h
 split at h
 ·rename_i Xa Ya
  split at h
  ·rename_i x y hx hy
   cases h
   obtain ⟨y1,as1,rfl,q1,ha2⟩:=ha.cons_inv
   obtain ⟨y2,as2,rfl,q2,ha3⟩:=ha2.cons_inv
   obtain rfl:=ha3.nil_inv
   obtain rfl:=decX_ok hx q1
   obtain rfl:=decX_ok hy q2
   exact (sameR (key w x hX hp.1) (key w y hX hp.2)).mono fun e w' ⟨he,hb⟩=>⟨hb,he⟩
  ·cases h
 ·cases h
theorem KRb {M0 M:Own} {w00 w0:World} {D:List EntT} {ys:EntT→List Int} (hM:∀ z,¬ M0 z) (hB:Base M0 w00 M w0) (hX:∀ x∈D,Dat w00 x.a x.l (ys x)):Facts (ERb D ys) M w0:=
 Facts.of' (Checked.mixed Tryz.checked) (by kernel_rfl) (ExtOK.of extL rfl extRows) (SumsOK.list (X:=fun w=>∀ x∈D,Dat w x.a x.l (ys x)) (l:=lRb D ys) rfl (fun r h=>by
  simp only [lRb,List.mem_cons,List.not_mem_nil,or_false] at h
  rcases h with rfl | rfl | rfl
  ·exact put8_sum
  ·exact getN_sum
  ·exact same_sum) fun ν s w hr _=>fun x hx=>(hX x hx).keep fun k hk=>(hr.frame k (Nat.lt_of_lt_of_le hk hB.size) (hB.frame k hk (hM k)).2).trans (hB.frame k hk (hM k)).1) (fun f g h=>by cases h)
theorem insQ_mem {x e:ByteArray}:∀ {l:List ByteArray},e∈insQ x l↔e=x∨e∈l
 | []=>by simp [insQ]
 | a::l=>by
  unfold insQ
  split
  ·simp
  ·rw [List.mem_cons,insQ_mem (l:=l),List.mem_cons]
   constructor
   ·rintro (h | h | h)
    ·exact .inr (.inl h)
    ·exact .inl h
    ·exact .inr (.inr h)
   ·rintro (h | h | h)
    ·exact .inr (.inl h)
    ·exact .inl h
    ·exact .inr (.inr h)
theorem isQ_iff {p e:ByteArray}:isQ p e=true↔e=p:=by
 unfold isQ
 rw [beq_iff_eq]
 constructor
 ·intro h
  have:=Array.toList_inj.1 h
  cases e;cases p;exact congrArg _ this
 ·rintro rfl;rfl
theorem putQ_mem {q e:ByteArray} {l:List ByteArray}:e∈putQ l q↔e=q∨e∈l:=by
 unfold putQ dropQ
 rw [insQ_mem,List.mem_filter]
 constructor
 ·rintro (h | h)
  ·exact .inl h
  ·exact .inr h.1
 ·rintro (h | h)
  ·exact .inl h
  ·by_cases he:e=q
   ·exact .inl he
   ·refine .inr ⟨h,?_⟩
    cases hi:isQ q e
    ·rfl
    ·exact absurd (isQ_iff.1 hi) he
theorem putQ_len (l:List ByteArray) (q:ByteArray):(putQ l q).length≤l.length+1:=by
 unfold putQ
 rw [insQ_len]
 exact Nat.succ_le_succ (List.length_filter_le _ _)
theorem putQ_ne (l:List ByteArray) (q:ByteArray):putQ l q≠[]:=fun h=>by
 have:=insQ_len q (dropQ q l)
 unfold putQ at h
 rw [h] at this;cases this
def putAll (t l:List ByteArray):List ByteArray:=l.foldl putQ t
theorem putAll_mem {e:ByteArray}:∀ {l t:List ByteArray},e∈putAll t l↔e∈t∨e∈l
 | [],t=>by simp [putAll]
 | q::l,t=>by
  show e∈putAll (putQ t q) l↔_
  rw [putAll_mem,putQ_mem,List.mem_cons]
  constructor
  ·rintro ((h | h) | h)
   ·exact .inr (.inl h)
   ·exact .inl h
   ·exact .inr (.inr h)
  ·rintro (h | h | h)
   ·exact .inl (.inr h)
   ·exact .inl (.inl h)
   ·exact .inr h
theorem putAll_len:∀ (l t:List ByteArray),(putAll t l).length≤t.length+l.length
 | [],t=>by simp [putAll]
 | q::l,t=>by
  have h1:=putAll_len l (putQ t q)
  have h2:=putQ_len t q
  show (putAll (putQ t q) l).length≤_
  rw [List.length_cons];omega
def difR (ys:EntT→List Int) (xs1 xs2:List EntT) (q:ByteArray):Bool:=!sameB (findE q xs1) (findE q xs2) (ysN ys (findE q xs1)) (ysN ys (findE q xs2))
theorem findE_ok {D xs:List EntT} (h:∀ e∈xs,e∈D) (q:ByteArray):DatOK D (findE q xs):=by
 unfold findE
 cases hf:xs.find? (isE q) with
 | none=>exact .inr ⟨rfl,rfl⟩
 | some e=>exact .inl (h e (List.mem_of_find?_eq_some hf))
def StrsIs (w w':World) (N:List ByteArray) (v:Value):Prop:=(N=[]∧v=.slice none 0 0)∨(N≠[]∧NewSl w w' v (N.map Value.string) N.length 1 9)
def RRb (w:World) (N:List ByteArray) (e:Ending) (w':World):Prop:=Below w.heap.size w w'∧∃ v,e=.returned v∧StrsIs w w' N v
theorem strs_val {ν:Val} {l:List ByteArray} {zs:List Value} (h:VRL ν (strs l) zs):zs=l.map Value.string:=plain_sol h (VRL.lits ν _)
theorem strs_app (a b:List ByteArray):strs (a++b)=strs a++strs b:=by unfold strs;simp
theorem strs_one (q:ByteArray):strs [q]=[.v (.string q)]:=rfl
theorem strs_flat (a:List ByteArray):(strs a).all SV.flat=true:=by
 rw [List.all_eq_true];intro x hx
 obtain ⟨v,hv,rfl⟩:=List.mem_map.1 hx
 obtain ⟨s,_,rfl⟩:=List.mem_map.1 hv
 rfl
structure RbH (D xs1 xs2:List EntT):Prop where
 few:xs1.length+xs2.length≤1000
 size1:∀ e∈xs1,e.p.size≤1000000000
 size2:∀ e∈xs2,e.p.size≤1000000000
 sub1:∀ e∈xs1,e∈D
 sub2:∀ e∈xs2,e∈D
def GoodT (t:List ByteArray) (k:Nat):Prop:=t.length≤k∧∀ e∈t,e.size≤1000000000
theorem GoodT.put {t:List ByteArray} {k:Nat} {q:ByteArray} (h:GoodT t k) (hq:q.size≤1000000000):GoodT (putQ t q) (k+1):=
 ⟨Nat.le_trans (putQ_len t q) (Nat.succ_le_succ h.1),fun e he=>by
  rcases putQ_mem.1 he with rfl | h1
  ·exact hq
  ·exact h.2 e h1⟩
theorem cE_name {xs:List EntT} {i:Nat} {x:EntT} (h:xs[i]?=some x):(cE xs)[0+(i:Int).toNat*4+0]?=some (.v (.string x.p)):=by
 rw [Int.toNat_natCast];exact cE_cell0 h
theorem cQ_name {t:List ByteArray} {i:Nat} {q:ByteArray} (h:t[i]?=some q):(cQ t)[0+(i:Int).toNat*3+0]?=some (.v (.string q)):=by
 rw [Int.toNat_natCast];exact cQ_cell0 h
theorem holdsQ (t:List ByteArray) (h:t.length≤1000):HoldsQ (cQ t) t.length t:=⟨rfl,rfl,h⟩
section
variable {W:World} {cs0:List Frame} {D:List EntT} {ys:EntT→List Int} {xs1 xs2:List EntT} {M:Own} {ν:Val}
theorem l3bRR (K:Facts (ERb D ys) M W) (hM:∀ z,¬ M z) (hν:∀ i b,ν i=some b→i=0∨i=1) (hH:RbH D xs1 xs2) {t:List ByteArray} (few:t.length≤1000):∀ (j i:Nat),i+j=t.length→((t.take i).filter (difR ys xs1 xs2))≠[]→
  Goes (ERb D ys) M W cs0 10 (RRb W (t.filter (difR ys xs1 xs2))) ν (SM.at (h3RR (.sl 4 0 t.length none) (.sl 5 0 ((t.take i).filter (difR ys xs1 xs2)).length none) (i:Int)) 6 (obRR (cE xs1) (cE xs2) xs1.length xs2.length [rowsQ (cQ t),strR (strs ((t.take i).filter (difR ys xs1 xs2)))]))
 | 0,i,hj,hne=>by
  rw [List.take_of_length_le (by omega)] at hne ⊢
  refine Goes.endsO K (n:=100) (o:=ff [0] false) (x:=.sl 5 0 (t.filter (difR ys xs1 xs2)).length none) (i:=5) (so:=.row (strs (t.filter (difR ys xs1 xs2))) 9 (0,0) (some 1)) (by
   rw [rz2RR]
   simp only [Owed,strs_closed,and_self,and_true,true_and]
   exact decide_eq_false (by omega)) fun ν' w' y b1 ob hv hb ho hor hw hB'=>?_
  obtain ⟨M3,w3,M4,s',hBb,hr⟩:=hB'
  have hn:W.heap.size≤b1.1:=by
   rcases hw with h | h
   ·exact h
   ·exact absurd h (hM _)
  exact ⟨below_of hM hBb hr,y,rfl,.inr ⟨hne,NewSl.of_row hv hb ho hor hn fun zs hz=>strs_val hz⟩⟩
 | j+1,i,hj,hne=>by
  have hi:i<t.length:=by omega
  have hq:t[i]?=some t[i]:=List.getElem?_eq_getElem hi
  have hfl:((t.take i).filter (difR ys xs1 xs2)).length≤1000:=Nat.le_trans (List.length_filter_le _ _) (by rw [List.length_take];omega)
  have hsn:=filter_snoc (D:=difR ys xs1 xs2) hi
  have t1:decide ((i:Int)<(t.length:Int))=true:=decide_eq_true (by omega)
  cases hd:difR ys xs1 xs2 t[i]
  ·have hd':(!sameB (findE t[i] xs1) (findE t[i] xs2) (ysN ys (findE t[i] xs1)) (ysN ys (findE t[i] xs2)))=false:=hd
   rw [hd,if_neg (by decide),List.append_nil] at hsn
   have nx:=l3bRR K hM hν hH few j (i+1) (by omega) (by rw [hsn];exact hne)
   rw [hsn] at nx
   refine Goes.reach K (k:=2) (n:=200) (o:=ff [0] true++[(2,.cells [.v (.string t[i])]),(8,.b false)]) (ren:=[(0,0),(1,1),(2,2),(3,3),(4,4),(5,5)]) (eqs:=[0,1,4,5]) ?_ (by kernel_rfl) (fun i b h=>by rcases hν i b h with h | h <;> rw [h] <;> rfl) nx
   rw [rf1RR (o':=[]) (w:=[])]
   simp only [Owed,wrap_succ (k:=i) (by omega),in_range hi,t1,cQ_name hq,cQ_closed,strs_closed,cE_closed,findS_closed,strs_flat,strs_len,strsOf_strs,nilE,List.all_append,entsOf_cE,leavesOf_cQ,and_self,and_true,true_and]
   repeat' apply And.intro
   all_goals first | rfl | omega | exact hd' | exact holdsE _ (by have:=hH.few;(try simp at this);omega) | exact findE_ok hH.sub1 _ | exact findE_ok hH.sub2 _ | exact List.take_of_length_le (by simp only [strs_len];omega) | skip
  ·have hd':(!sameB (findE t[i] xs1) (findE t[i] xs2) (ysN ys (findE t[i] xs1)) (ysN ys (findE t[i] xs2)))=true:=hd
   rw [hd,if_pos rfl] at hsn
   have nx:=l3bRR K hM hν hH few j (i+1) (by omega) (by rw [hsn];simp)
   rw [hsn,List.length_append,show ([t[i]]:List ByteArray).length=1 from rfl,strs_app,strs_one] at nx
   refine Goes.reach K (k:=2) (n:=200) (o:=ff [0] true++[(2,.cells [.v (.string t[i])]),(8,.b true),(9,.app (strs ((t.take i).filter (difR ys xs1 xs2))) [.v (.string t[i])])]) (ren:=[(0,0),(1,1),(2,2),(3,3),(4,4),(5,7)]) (eqs:=[0,1,4,5]) ?_ (by kernel_rfl) (fun i b h=>by rcases hν i b h with h | h <;> rw [h] <;> rfl) nx
   rw [rt1RR]
   simp only [Owed,wrap_succ (k:=i) (by omega),in_range hi,t1,cQ_name hq,cQ_closed,strs_closed,cE_closed,findS_closed,strs_flat,strs_len,strsOf_strs,nilE,List.all_append,entsOf_cE,leavesOf_cQ,and_self,and_true,true_and]
   repeat' apply And.intro
   all_goals first | rfl | omega | exact hd' | exact holdsE _ (by have:=hH.few;(try simp at this);omega) | exact findE_ok hH.sub1 _ | exact findE_ok hH.sub2 _ | exact List.take_of_length_le (by simp only [strs_len];omega) | skip
theorem l3aRR (K:Facts (ERb D ys) M W) (hM:∀ z,¬ M z) (hν:∀ i b,ν i=some b→i=0∨i=1) (hH:RbH D xs1 xs2) {t:List ByteArray} (few:t.length≤1000):∀ (j i:Nat),i+j=t.length→((t.take i).filter (difR ys xs1 xs2))=[]→
  Goes (ERb D ys) M W cs0 10 (RRb W (t.filter (difR ys xs1 xs2))) ν (SM.at (h3RR (.sl 4 0 t.length none) nilE (i:Int)) 6 (obRR (cE xs1) (cE xs2) xs1.length xs2.length [rowsQ (cQ t)]))
 | 0,i,hj,hne=>by
  rw [List.take_of_length_le (by omega)] at hne
  refine Goes.endsV K (n:=100) (o:=ff [0] false) (v:=.slice none 0 0) ?_ fun ν' M1 w1 s' w' _ hB' hr=>⟨below_of hM hB' hr,_,rfl,.inl ⟨hne,rfl⟩⟩
  rw [rz1RR]
  simp only [Owed,and_self,and_true,true_and]
  exact decide_eq_false (by omega)
 | j+1,i,hj,hne=>by
  have hi:i<t.length:=by omega
  have hq:t[i]?=some t[i]:=List.getElem?_eq_getElem hi
  have hfl:((t.take i).filter (difR ys xs1 xs2)).length≤1000:=Nat.le_trans (List.length_filter_le _ _) (by rw [List.length_take];omega)
  have hsn:=filter_snoc (D:=difR ys xs1 xs2) hi
  have t1:decide ((i:Int)<(t.length:Int))=true:=decide_eq_true (by omega)
  rw [hne,List.nil_append] at hsn
  cases hd:difR ys xs1 xs2 t[i]
  ·have hd':(!sameB (findE t[i] xs1) (findE t[i] xs2) (ysN ys (findE t[i] xs1)) (ysN ys (findE t[i] xs2)))=false:=hd
   rw [hd,if_neg (by decide)] at hsn
   have nx:=l3aRR K hM hν hH few j (i+1) (by omega) hsn
   refine Goes.reach K (k:=2) (n:=200) (o:=ff [0] true++[(2,.cells [.v (.string t[i])]),(8,.b false)]) (ren:=[(0,0),(1,1),(2,2),(3,3),(4,4)]) (eqs:=[0,1,4]) ?_ (by kernel_rfl) (fun i b h=>by rcases hν i b h with h | h <;> rw [h] <;> rfl) nx
   rw [rf0RR (o:=[]) (o':=[]) (w:=[]) (r:=0)]
   simp only [Owed,wrap_succ (k:=i) (by omega),in_range hi,t1,cQ_name hq,cQ_closed,strs_closed,cE_closed,findS_closed,strs_flat,strs_len,strsOf_strs,nilE,List.all_append,entsOf_cE,leavesOf_cQ,and_self,and_true,true_and]
   repeat' apply And.intro
   all_goals first | rfl | omega | exact hd' | exact holdsE _ (by have:=hH.few;(try simp at this);omega) | exact findE_ok hH.sub1 _ | exact findE_ok hH.sub2 _ | exact List.take_of_length_le (by simp only [strs_len];omega) | skip
  ·have hd':(!sameB (findE t[i] xs1) (findE t[i] xs2) (ysN ys (findE t[i] xs1)) (ysN ys (findE t[i] xs2)))=true:=hd
   rw [hd,if_pos rfl] at hsn
   have nx:=l3bRR (cs0:=cs0) K hM hν hH few j (i+1) (by omega) (by rw [hsn];simp)
   rw [hsn,show ([t[i]]:List ByteArray).length=1 from rfl,strs_one] at nx
   refine Goes.reach K (k:=2) (n:=200) (o:=ff [0] true++[(2,.cells [.v (.string t[i])]),(8,.b true),(9,.b false)]) (ren:=[(0,0),(1,1),(2,2),(3,3),(4,4),(5,6)]) (eqs:=[0,1,4,5]) ?_ (by kernel_rfl) (fun i b h=>by rcases hν i b h with h | h <;> rw [h] <;> rfl) nx
   rw [rt0RR (o:=[]) (w:=[]) (r:=0)]
   simp only [Owed,wrap_succ (k:=i) (by omega),in_range hi,t1,cQ_name hq,cQ_closed,strs_closed,cE_closed,findS_closed,strs_flat,strs_len,strsOf_strs,nilE,List.all_append,entsOf_cE,leavesOf_cQ,and_self,and_true,true_and]
   repeat' apply And.intro
   all_goals first | rfl | omega | exact hd' | exact holdsE _ (by have:=hH.few;(try simp at this);omega) | exact findE_ok hH.sub1 _ | exact findE_ok hH.sub2 _ | exact List.take_of_length_le (by simp only [strs_len];omega) | skip
theorem l2bRR (K:Facts (ERb D ys) M W) (hM:∀ z,¬ M z) (hν:∀ i b,ν i=some b→i=0∨i=1) (hH:RbH D xs1 xs2) (ne1:xs1≠[]) (ne2:xs2≠[]):∀ (j i:Nat),i+j=xs2.length→∀ t:List ByteArray,t≠[]→GoodT t (xs1.length+i)→
  Goes (ERb D ys) M W cs0 10 (RRb W ((putAll t ((xs2.map (·.p)).drop i)).filter (difR ys xs1 xs2))) ν (SM.at (h2RR (.sl 4 0 t.length none) (i:Int)) 6 (obRR (cE xs1) (cE xs2) xs1.length xs2.length [rowsQ (cQ t)]))
 | 0,i,hj,t,ht,hg=>by
  have nx:=l3aRR (cs0:=cs0) K hM hν hH (t:=t) (by have h1:=hH.few;have h2:=hg.1;(try simp at h1);omega) t.length 0 (by omega) rfl
  rw [List.drop_eq_nil_of_le (by simp;omega)]
  refine Goes.reach K (k:=2) (n:=100) (o:=ff [0] false) (ren:=[(0,0),(1,1),(2,2),(3,3),(4,4)]) (eqs:=[0,1,4]) (F:=h3RR (.sl 4 0 t.length none) nilE 0) (d:=6) (l:=obRR (cE xs1) (cE xs2) xs1.length xs2.length [rowsQ (cQ t)]) ?_ (by kernel_rfl) (fun i b h=>by rcases hν i b h with h | h <;> rw [h] <;> rfl) nx
  rw [ry2RR]
  simp only [Owed,cQ_closed,cE_closed,nilE,decide_eq_false (show ¬ (i:Int)<(xs2.length:Int) by omega),and_self,and_true,true_and]
 | j+1,i,hj,t,ht,hg=>by
  have hi:i<xs2.length:=by omega
  have hq:xs2[i]?=some xs2[i]:=List.getElem?_eq_getElem hi
  have t1:decide ((i:Int)<(xs2.length:Int))=true:=decide_eq_true (by omega)
  have hz:=hH.size2 _ (List.getElem_mem hi)
  have nx:=l2bRR K hM hν hH ne1 ne2 j (i+1) (by omega) (putQ t xs2[i].p) (putQ_ne _ _) (hg.put hz)
  have hdr:(xs2.map (·.p)).drop i=xs2[i].p::(xs2.map (·.p)).drop (i+1):=by
   rw [List.drop_eq_getElem_cons (by simpa using hi)];simp
  rw [hdr]
  refine Goes.reach K (k:=2) (n:=100) (o:=ff [0] true++[(2,.cells [.v (.string xs2[i].p)])]) (ren:=[(0,0),(1,1),(2,2),(3,3),(4,5)]) (eqs:=[0,1,4]) ?_ (by kernel_rfl) (fun i b h=>by rcases hν i b h with h | h <;> rw [h] <;> rfl) nx
  rw [rc2RR]
  simp only [Owed,wrap_succ (k:=i) (by have:=hH.few;(try simp at this);omega),in_range hi,t1,cE_name hq,leavesOf_cQ,cQ_map,cQ_closed,cE_closed,nilE,and_self,and_true,true_and]
  repeat' apply And.intro
  all_goals first | rfl | omega | exact holdsQ _ (by have h1:=hH.few;have h2:=hg.1;(try simp at h1);omega) | exact hz | exact hg.2 | skip
theorem l1bRR (K:Facts (ERb D ys) M W) (hM:∀ z,¬ M z) (hν:∀ i b,ν i=some b→i=0∨i=1) (hH:RbH D xs1 xs2) (ne1:xs1≠[]) (ne2:xs2≠[]):∀ (j i:Nat),i+j=xs1.length→∀ t:List ByteArray,t≠[]→GoodT t (0+i)→
  Goes (ERb D ys) M W cs0 10 (RRb W ((putAll (putAll t ((xs1.map (·.p)).drop i)) (xs2.map (·.p))).filter (difR ys xs1 xs2))) ν (SM.at (h1RR (.sl 4 0 t.length none) (i:Int)) 6 (obRR (cE xs1) (cE xs2) xs1.length xs2.length [rowsQ (cQ t)]))
 | 0,i,hj,t,ht,hg=>by
  have nx:=l2bRR (cs0:=cs0) K hM hν hH ne1 ne2 xs2.length 0 (by omega) t ht (by rw [show xs1.length=i by omega];exact ⟨by have:=hg.1;omega,hg.2⟩)
  rw [List.drop_zero] at nx
  rw [List.drop_eq_nil_of_le (by simp;omega)]
  refine Goes.reach K (k:=2) (n:=100) (o:=ff [0] false) (ren:=[(0,0),(1,1),(2,2),(3,3),(4,4)]) (eqs:=[0,1,4]) (F:=h2RR (.sl 4 0 t.length none) 0) (d:=6) (l:=obRR (cE xs1) (cE xs2) xs1.length xs2.length [rowsQ (cQ t)]) ?_ (by kernel_rfl) (fun i b h=>by rcases hν i b h with h | h <;> rw [h] <;> rfl) nx
  rw [ry1RR]
  simp only [Owed,cQ_closed,cE_closed,nilE,decide_eq_false (show ¬ (i:Int)<(xs1.length:Int) by omega),and_self,and_true,true_and]
 | j+1,i,hj,t,ht,hg=>by
  have hi:i<xs1.length:=by omega
  have hq:xs1[i]?=some xs1[i]:=List.getElem?_eq_getElem hi
  have t1:decide ((i:Int)<(xs1.length:Int))=true:=decide_eq_true (by omega)
  have hz:=hH.size1 _ (List.getElem_mem hi)
  have nx:=l1bRR K hM hν hH ne1 ne2 j (i+1) (by omega) (putQ t xs1[i].p) (putQ_ne _ _) (hg.put hz)
  have hdr:(xs1.map (·.p)).drop i=xs1[i].p::(xs1.map (·.p)).drop (i+1):=by
   rw [List.drop_eq_getElem_cons (by simpa using hi)];simp
  rw [hdr]
  refine Goes.reach K (k:=2) (n:=100) (o:=ff [0] true++[(2,.cells [.v (.string xs1[i].p)])]) (ren:=[(0,0),(1,1),(2,2),(3,3),(4,5)]) (eqs:=[0,1,4]) ?_ (by kernel_rfl) (fun i b h=>by rcases hν i b h with h | h <;> rw [h] <;> rfl) nx
  rw [rc1RR]
  simp only [Owed,wrap_succ (k:=i) (by have:=hH.few;(try simp at this);omega),in_range hi,t1,cE_name hq,leavesOf_cQ,cQ_map,cQ_closed,cE_closed,nilE,and_self,and_true,true_and]
  repeat' apply And.intro
  all_goals first | rfl | omega | exact holdsQ _ (by have h1:=hH.few;have h2:=hg.1;(try simp at h1);omega) | exact hz | exact hg.2 | skip
theorem l1aRR (K:Facts (ERb D ys) M W) (hM:∀ z,¬ M z) (hν:∀ i b,ν i=some b→i=0∨i=1) (hH:RbH D xs1 xs2) (ne1:xs1≠[]) (ne2:xs2≠[]):Goes (ERb D ys) M W cs0 10 (RRb W ((putAll (putAll [] (xs1.map (·.p))) (xs2.map (·.p))).filter (difR ys xs1 xs2))) ν (SM.at (h1RR nilE ((0:Nat):Int)) 6 (obRR (cE xs1) (cE xs2) xs1.length xs2.length [])):=by
 have hi:0<xs1.length:=List.length_pos_iff.2 ne1
 have hq:xs1[0]?=some xs1[0]:=List.getElem?_eq_getElem hi
 have t1:decide (((0:Nat):Int)<(xs1.length:Int))=true:=decide_eq_true (by omega)
 have hz:=hH.size1 _ (List.getElem_mem hi)
 have hg0:GoodT [] 0:=⟨Nat.zero_le _,fun e he=>(nomatch he)⟩
 have nx:=l1bRR (cs0:=cs0) K hM hν hH ne1 ne2 (xs1.length - 1) 1 (by omega) (putQ [] xs1[0].p) (putQ_ne _ _) (hg0.put hz)
 have hdr:xs1.map (·.p)=xs1[0].p::(xs1.map (·.p)).drop 1:=by
  conv=>lhs;rw [← List.drop_zero (l:=xs1.map (·.p)),List.drop_eq_getElem_cons (by simpa using hi)]
  simp
 rw [show putAll [] (xs1.map (·.p))=putAll (putQ [] xs1[0].p) ((xs1.map (·.p)).drop 1) from (congrArg (putAll []) hdr).trans rfl]
 refine Goes.reach K (k:=2) (n:=100) (o:=ff [0] true++[(2,.cells [.v (.string xs1[0].p)])]) (ren:=[(0,0),(1,1),(2,2),(3,3),(4,4)]) (eqs:=[0,1,4]) ?_ (by kernel_rfl) (fun i b h=>by rcases hν i b h with h | h <;> rw [h] <;> rfl) nx
 rw [rb1RR (k:=0)]
 simp only [Owed,wrap_succ (k:=0) (by omega),in_range hi,t1,cE_name hq,leavesOf_cQ,cQ_map,cQ_closed,cE_closed,nilE,and_self,and_true,true_and]
 repeat' apply And.intro
 all_goals first | rfl | omega | skip
end
section
variable {W:World} {cs0:List Frame} {D:List EntT} {ys:EntT→List Int} {xs1:List EntT} {M:Own} {ν:Val}
theorem l3bRN (K:Facts (ERb D ys) M W) (hM:∀ z,¬ M z) (hν:∀ i b,ν i=some b→i=0) (hH:RbH D xs1 []) {t:List ByteArray} (few:t.length≤1000):∀ (j i:Nat),i+j=t.length→((t.take i).filter (difR ys xs1 []))≠[]→
  Goes (ERb D ys) M W cs0 10 (RRb W (t.filter (difR ys xs1 []))) ν (SM.at (h3RN (.sl 3 0 t.length none) (.sl 4 0 ((t.take i).filter (difR ys xs1 [])).length none) (i:Int)) 6 (obRN (cE xs1) [] xs1.length 0 [rowsQ (cQ t),strR (strs ((t.take i).filter (difR ys xs1 [])))]))
 | 0,i,hj,hne=>by
  rw [List.take_of_length_le (by omega)] at hne ⊢
  refine Goes.endsO K (n:=100) (o:=ff [0] false) (x:=.sl 4 0 (t.filter (difR ys xs1 [])).length none) (i:=4) (so:=.row (strs (t.filter (difR ys xs1 []))) 9 (0,0) (some 1)) (by
   rw [rz2RN]
   simp only [Owed,strs_closed,and_self,and_true,true_and]
   exact decide_eq_false (by omega)) fun ν' w' y b1 ob hv hb ho hor hw hB'=>?_
  obtain ⟨M3,w3,M4,s',hBb,hr⟩:=hB'
  have hn:W.heap.size≤b1.1:=by
   rcases hw with h | h
   ·exact h
   ·exact absurd h (hM _)
  exact ⟨below_of hM hBb hr,y,rfl,.inr ⟨hne,NewSl.of_row hv hb ho hor hn fun zs hz=>strs_val hz⟩⟩
 | j+1,i,hj,hne=>by
  have hi:i<t.length:=by omega
  have hq:t[i]?=some t[i]:=List.getElem?_eq_getElem hi
  have hfl:((t.take i).filter (difR ys xs1 [])).length≤1000:=Nat.le_trans (List.length_filter_le _ _) (by rw [List.length_take];omega)
  have hsn:=filter_snoc (D:=difR ys xs1 []) hi
  have t1:decide ((i:Int)<(t.length:Int))=true:=decide_eq_true (by omega)
  cases hd:difR ys xs1 [] t[i]
  ·have hd':(!sameB (findE t[i] xs1) (⟨t[i],0,0,none,0,0⟩:EntT) (ysN ys (findE t[i] xs1)) (ysN ys (⟨t[i],0,0,none,0,0⟩:EntT)))=false:=hd
   rw [hd,if_neg (by decide),List.append_nil] at hsn
   have nx:=l3bRN K hM hν hH few j (i+1) (by omega) (by rw [hsn];exact hne)
   rw [hsn] at nx
   refine Goes.reach K (k:=2) (n:=200) (o:=ff [0] true++[(2,.cells [.v (.string t[i])]),(8,.b false)]) (ren:=[(0,0),(1,1),(2,2),(3,3),(4,4)]) (eqs:=[0,3,4]) ?_ (by kernel_rfl) (fun i b h=>by rw [hν i b h];rfl) nx
   rw [rf1RN (o':=[]) (w:=[])]
   simp only [Owed,wrap_succ (k:=i) (by omega),in_range hi,t1,cQ_name hq,cQ_closed,strs_closed,cE_closed,findS_closed,strs_flat,strs_len,strsOf_strs,nilE,List.all_append,entsOf_cE,leavesOf_cQ,and_self,and_true,true_and]
   repeat' apply And.intro
   all_goals first | rfl | omega | exact hd' | exact holdsE _ (by have:=hH.few;(try simp at this);omega) | exact findE_ok hH.sub1 _ | exact findE_ok hH.sub2 _ | exact List.take_of_length_le (by simp only [strs_len];omega) | skip
  ·have hd':(!sameB (findE t[i] xs1) (⟨t[i],0,0,none,0,0⟩:EntT) (ysN ys (findE t[i] xs1)) (ysN ys (⟨t[i],0,0,none,0,0⟩:EntT)))=true:=hd
   rw [hd,if_pos rfl] at hsn
   have nx:=l3bRN K hM hν hH few j (i+1) (by omega) (by rw [hsn];simp)
   rw [hsn,List.length_append,show ([t[i]]:List ByteArray).length=1 from rfl,strs_app,strs_one] at nx
   refine Goes.reach K (k:=2) (n:=200) (o:=ff [0] true++[(2,.cells [.v (.string t[i])]),(8,.b true),(9,.app (strs ((t.take i).filter (difR ys xs1 []))) [.v (.string t[i])])]) (ren:=[(0,0),(1,1),(2,2),(3,3),(4,6)]) (eqs:=[0,3,4]) ?_ (by kernel_rfl) (fun i b h=>by rw [hν i b h];rfl) nx
   rw [rt1RN]
   simp only [Owed,wrap_succ (k:=i) (by omega),in_range hi,t1,cQ_name hq,cQ_closed,strs_closed,cE_closed,findS_closed,strs_flat,strs_len,strsOf_strs,nilE,List.all_append,entsOf_cE,leavesOf_cQ,and_self,and_true,true_and]
   repeat' apply And.intro
   all_goals first | rfl | omega | exact hd' | exact holdsE _ (by have:=hH.few;(try simp at this);omega) | exact findE_ok hH.sub1 _ | exact findE_ok hH.sub2 _ | exact List.take_of_length_le (by simp only [strs_len];omega) | skip
theorem l3aRN (K:Facts (ERb D ys) M W) (hM:∀ z,¬ M z) (hν:∀ i b,ν i=some b→i=0) (hH:RbH D xs1 []) {t:List ByteArray} (few:t.length≤1000):∀ (j i:Nat),i+j=t.length→((t.take i).filter (difR ys xs1 []))=[]→
  Goes (ERb D ys) M W cs0 10 (RRb W (t.filter (difR ys xs1 []))) ν (SM.at (h3RN (.sl 3 0 t.length none) nilE (i:Int)) 6 (obRN (cE xs1) [] xs1.length 0 [rowsQ (cQ t)]))
 | 0,i,hj,hne=>by
  rw [List.take_of_length_le (by omega)] at hne
  refine Goes.endsV K (n:=100) (o:=ff [0] false) (v:=.slice none 0 0) ?_ fun ν' M1 w1 s' w' _ hB' hr=>⟨below_of hM hB' hr,_,rfl,.inl ⟨hne,rfl⟩⟩
  rw [rz1RN]
  simp only [Owed,and_self,and_true,true_and]
  exact decide_eq_false (by omega)
 | j+1,i,hj,hne=>by
  have hi:i<t.length:=by omega
  have hq:t[i]?=some t[i]:=List.getElem?_eq_getElem hi
  have hfl:((t.take i).filter (difR ys xs1 [])).length≤1000:=Nat.le_trans (List.length_filter_le _ _) (by rw [List.length_take];omega)
  have hsn:=filter_snoc (D:=difR ys xs1 []) hi
  have t1:decide ((i:Int)<(t.length:Int))=true:=decide_eq_true (by omega)
  rw [hne,List.nil_append] at hsn
  cases hd:difR ys xs1 [] t[i]
  ·have hd':(!sameB (findE t[i] xs1) (⟨t[i],0,0,none,0,0⟩:EntT) (ysN ys (findE t[i] xs1)) (ysN ys (⟨t[i],0,0,none,0,0⟩:EntT)))=false:=hd
   rw [hd,if_neg (by decide)] at hsn
   have nx:=l3aRN K hM hν hH few j (i+1) (by omega) hsn
   refine Goes.reach K (k:=2) (n:=200) (o:=ff [0] true++[(2,.cells [.v (.string t[i])]),(8,.b false)]) (ren:=[(0,0),(1,1),(2,2),(3,3)]) (eqs:=[0,3]) ?_ (by kernel_rfl) (fun i b h=>by rw [hν i b h];rfl) nx
   rw [rf0RN (o:=[]) (o':=[]) (w:=[]) (r:=0)]
   simp only [Owed,wrap_succ (k:=i) (by omega),in_range hi,t1,cQ_name hq,cQ_closed,strs_closed,cE_closed,findS_closed,strs_flat,strs_len,strsOf_strs,nilE,List.all_append,entsOf_cE,leavesOf_cQ,and_self,and_true,true_and]
   repeat' apply And.intro
   all_goals first | rfl | omega | exact hd' | exact holdsE _ (by have:=hH.few;(try simp at this);omega) | exact findE_ok hH.sub1 _ | exact findE_ok hH.sub2 _ | exact List.take_of_length_le (by simp only [strs_len];omega) | skip
  ·have hd':(!sameB (findE t[i] xs1) (⟨t[i],0,0,none,0,0⟩:EntT) (ysN ys (findE t[i] xs1)) (ysN ys (⟨t[i],0,0,none,0,0⟩:EntT)))=true:=hd
   rw [hd,if_pos rfl] at hsn
   have nx:=l3bRN (cs0:=cs0) K hM hν hH few j (i+1) (by omega) (by rw [hsn];simp)
   rw [hsn,show ([t[i]]:List ByteArray).length=1 from rfl,strs_one] at nx
   refine Goes.reach K (k:=2) (n:=200) (o:=ff [0] true++[(2,.cells [.v (.string t[i])]),(8,.b true),(9,.b false)]) (ren:=[(0,0),(1,1),(2,2),(3,3),(4,5)]) (eqs:=[0,3,4]) ?_ (by kernel_rfl) (fun i b h=>by rw [hν i b h];rfl) nx
   rw [rt0RN (o:=[]) (w:=[]) (r:=0)]
   simp only [Owed,wrap_succ (k:=i) (by omega),in_range hi,t1,cQ_name hq,cQ_closed,strs_closed,cE_closed,findS_closed,strs_flat,strs_len,strsOf_strs,nilE,List.all_append,entsOf_cE,leavesOf_cQ,and_self,and_true,true_and]
   repeat' apply And.intro
   all_goals first | rfl | omega | exact hd' | exact holdsE _ (by have:=hH.few;(try simp at this);omega) | exact findE_ok hH.sub1 _ | exact findE_ok hH.sub2 _ | exact List.take_of_length_le (by simp only [strs_len];omega) | skip
theorem l2bRN (K:Facts (ERb D ys) M W) (hM:∀ z,¬ M z) (hν:∀ i b,ν i=some b→i=0) (hH:RbH D xs1 []) (ne1:xs1≠[]) (t:List ByteArray) (few:t.length≤1000):
  Goes (ERb D ys) M W cs0 10 (RRb W (t.filter (difR ys xs1 []))) ν (SM.at (h2RN (.sl 3 0 t.length none) ((0:Nat):Int)) 6 (obRN (cE xs1) [] xs1.length 0 [rowsQ (cQ t)])):=by
 have nx:=l3aRN (cs0:=cs0) K hM hν hH (t:=t) few t.length 0 (by omega) rfl
 refine Goes.reach K (k:=2) (n:=100) (o:=ff [0] false) (ren:=[(0,0),(1,1),(2,2),(3,3)]) (eqs:=[0,3]) (F:=h3RN (.sl 3 0 t.length none) nilE 0) (d:=6) (l:=obRN (cE xs1) [] xs1.length 0 [rowsQ (cQ t)]) ?_ (by kernel_rfl) (fun i b h=>by rw [hν i b h];rfl) nx
 rw [ry2RN]
 simp only [Owed,cQ_closed,cE_closed,nilE,decide_eq_false (show ¬ ((0:Nat):Int)<((0:Nat):Int) by omega),and_self,and_true,true_and]
theorem l1bRN (K:Facts (ERb D ys) M W) (hM:∀ z,¬ M z) (hν:∀ i b,ν i=some b→i=0) (hH:RbH D xs1 []) (ne1:xs1≠[]):∀ (j i:Nat),i+j=xs1.length→∀ t:List ByteArray,t≠[]→GoodT t (0+i)→
  Goes (ERb D ys) M W cs0 10 (RRb W ((putAll (putAll t ((xs1.map (·.p)).drop i)) []).filter (difR ys xs1 []))) ν (SM.at (h1RN (.sl 3 0 t.length none) (i:Int)) 6 (obRN (cE xs1) [] xs1.length 0 [rowsQ (cQ t)]))
 | 0,i,hj,t,ht,hg=>by
  have nx:=l2bRN (cs0:=cs0) K hM hν hH ne1 t (by have h1:=hH.few;have h2:=hg.1;(try simp at h1);omega)
  rw [List.drop_eq_nil_of_le (by simp;omega)]
  refine Goes.reach K (k:=2) (n:=100) (o:=ff [0] false) (ren:=[(0,0),(1,1),(2,2),(3,3)]) (eqs:=[0,3]) (F:=h2RN (.sl 3 0 t.length none) 0) (d:=6) (l:=obRN (cE xs1) [] xs1.length 0 [rowsQ (cQ t)]) ?_ (by kernel_rfl) (fun i b h=>by rw [hν i b h];rfl) nx
  rw [ry1RN]
  simp only [Owed,cQ_closed,cE_closed,nilE,decide_eq_false (show ¬ (i:Int)<(xs1.length:Int) by omega),and_self,and_true,true_and]
 | j+1,i,hj,t,ht,hg=>by
  have hi:i<xs1.length:=by omega
  have hq:xs1[i]?=some xs1[i]:=List.getElem?_eq_getElem hi
  have t1:decide ((i:Int)<(xs1.length:Int))=true:=decide_eq_true (by omega)
  have hz:=hH.size1 _ (List.getElem_mem hi)
  have nx:=l1bRN K hM hν hH ne1 j (i+1) (by omega) (putQ t xs1[i].p) (putQ_ne _ _) (hg.put hz)
  have hdr:(xs1.map (·.p)).drop i=xs1[i].p::(xs1.map (·.p)).drop (i+1):=by
   rw [List.drop_eq_getElem_cons (by simpa using hi)];simp
  rw [hdr]
  refine Goes.reach K (k:=2) (n:=100) (o:=ff [0] true++[(2,.cells [.v (.string xs1[i].p)])]) (ren:=[(0,0),(1,1),(2,2),(3,4)]) (eqs:=[0,3]) ?_ (by kernel_rfl) (fun i b h=>by rw [hν i b h];rfl) nx
  rw [rc1RN]
  simp only [Owed,wrap_succ (k:=i) (by have:=hH.few;(try simp at this);omega),in_range hi,t1,cE_name hq,leavesOf_cQ,cQ_map,cQ_closed,cE_closed,nilE,and_self,and_true,true_and]
  repeat' apply And.intro
  all_goals first | rfl | omega | exact holdsQ _ (by have h1:=hH.few;have h2:=hg.1;(try simp at h1);omega) | exact hz | exact hg.2 | skip
theorem l1aRN (K:Facts (ERb D ys) M W) (hM:∀ z,¬ M z) (hν:∀ i b,ν i=some b→i=0) (hH:RbH D xs1 []) (ne1:xs1≠[]):Goes (ERb D ys) M W cs0 10 (RRb W ((putAll (putAll [] (xs1.map (·.p))) []).filter (difR ys xs1 []))) ν (SM.at (h1RN nilE ((0:Nat):Int)) 6 (obRN (cE xs1) [] xs1.length 0 [])):=by
 have hi:0<xs1.length:=List.length_pos_iff.2 ne1
 have hq:xs1[0]?=some xs1[0]:=List.getElem?_eq_getElem hi
 have t1:decide (((0:Nat):Int)<(xs1.length:Int))=true:=decide_eq_true (by omega)
 have hz:=hH.size1 _ (List.getElem_mem hi)
 have hg0:GoodT [] 0:=⟨Nat.zero_le _,fun e he=>(nomatch he)⟩
 have nx:=l1bRN (cs0:=cs0) K hM hν hH ne1 (xs1.length - 1) 1 (by omega) (putQ [] xs1[0].p) (putQ_ne _ _) (hg0.put hz)
 have hdr:xs1.map (·.p)=xs1[0].p::(xs1.map (·.p)).drop 1:=by
  conv=>lhs;rw [← List.drop_zero (l:=xs1.map (·.p)),List.drop_eq_getElem_cons (by simpa using hi)]
  simp
 rw [show putAll [] (xs1.map (·.p))=putAll (putQ [] xs1[0].p) ((xs1.map (·.p)).drop 1) from (congrArg (putAll []) hdr).trans rfl]
 refine Goes.reach K (k:=2) (n:=100) (o:=ff [0] true++[(2,.cells [.v (.string xs1[0].p)])]) (ren:=[(0,0),(1,1),(2,2),(3,3)]) (eqs:=[0,3]) ?_ (by kernel_rfl) (fun i b h=>by rw [hν i b h];rfl) nx
 rw [rb1RN (k:=0)]
 simp only [Owed,wrap_succ (k:=0) (by omega),in_range hi,t1,cE_name hq,leavesOf_cQ,cQ_map,cQ_closed,cE_closed,nilE,and_self,and_true,true_and]
 repeat' apply And.intro
 all_goals first | rfl | omega | skip
end
section
variable {W:World} {cs0:List Frame} {D:List EntT} {ys:EntT→List Int} {xs2:List EntT} {M:Own} {ν:Val}
theorem l3bNR (K:Facts (ERb D ys) M W) (hM:∀ z,¬ M z) (hν:∀ i b,ν i=some b→i=0) (hH:RbH D [] xs2) {t:List ByteArray} (few:t.length≤1000):∀ (j i:Nat),i+j=t.length→((t.take i).filter (difR ys [] xs2))≠[]→
  Goes (ERb D ys) M W cs0 10 (RRb W (t.filter (difR ys [] xs2))) ν (SM.at (h3NR (.sl 3 0 t.length none) (.sl 4 0 ((t.take i).filter (difR ys [] xs2)).length none) (i:Int)) 6 (obNR [] (cE xs2) 0 xs2.length [rowsQ (cQ t),strR (strs ((t.take i).filter (difR ys [] xs2)))]))
 | 0,i,hj,hne=>by
  rw [List.take_of_length_le (by omega)] at hne ⊢
  refine Goes.endsO K (n:=100) (o:=ff [0] false) (x:=.sl 4 0 (t.filter (difR ys [] xs2)).length none) (i:=4) (so:=.row (strs (t.filter (difR ys [] xs2))) 9 (0,0) (some 1)) (by
   rw [rz2NR]
   simp only [Owed,strs_closed,and_self,and_true,true_and]
   exact decide_eq_false (by omega)) fun ν' w' y b1 ob hv hb ho hor hw hB'=>?_
  obtain ⟨M3,w3,M4,s',hBb,hr⟩:=hB'
  have hn:W.heap.size≤b1.1:=by
   rcases hw with h | h
   ·exact h
   ·exact absurd h (hM _)
  exact ⟨below_of hM hBb hr,y,rfl,.inr ⟨hne,NewSl.of_row hv hb ho hor hn fun zs hz=>strs_val hz⟩⟩
 | j+1,i,hj,hne=>by
  have hi:i<t.length:=by omega
  have hq:t[i]?=some t[i]:=List.getElem?_eq_getElem hi
  have hfl:((t.take i).filter (difR ys [] xs2)).length≤1000:=Nat.le_trans (List.length_filter_le _ _) (by rw [List.length_take];omega)
  have hsn:=filter_snoc (D:=difR ys [] xs2) hi
  have t1:decide ((i:Int)<(t.length:Int))=true:=decide_eq_true (by omega)
  cases hd:difR ys [] xs2 t[i]
  ·have hd':(!sameB (⟨t[i],0,0,none,0,0⟩:EntT) (findE t[i] xs2) (ysN ys (⟨t[i],0,0,none,0,0⟩:EntT)) (ysN ys (findE t[i] xs2)))=false:=hd
   rw [hd,if_neg (by decide),List.append_nil] at hsn
   have nx:=l3bNR K hM hν hH few j (i+1) (by omega) (by rw [hsn];exact hne)
   rw [hsn] at nx
   refine Goes.reach K (k:=2) (n:=200) (o:=ff [0] true++[(2,.cells [.v (.string t[i])]),(8,.b false)]) (ren:=[(0,0),(1,1),(2,2),(3,3),(4,4)]) (eqs:=[0,3,4]) ?_ (by kernel_rfl) (fun i b h=>by rw [hν i b h];rfl) nx
   rw [rf1NR (o':=[]) (w:=[])]
   simp only [Owed,wrap_succ (k:=i) (by omega),in_range hi,t1,cQ_name hq,cQ_closed,strs_closed,cE_closed,findS_closed,strs_flat,strs_len,strsOf_strs,nilE,List.all_append,entsOf_cE,leavesOf_cQ,and_self,and_true,true_and]
   repeat' apply And.intro
   all_goals first | rfl | omega | exact hd' | exact holdsE _ (by have:=hH.few;(try simp at this);omega) | exact findE_ok hH.sub1 _ | exact findE_ok hH.sub2 _ | exact List.take_of_length_le (by simp only [strs_len];omega) | skip
  ·have hd':(!sameB (⟨t[i],0,0,none,0,0⟩:EntT) (findE t[i] xs2) (ysN ys (⟨t[i],0,0,none,0,0⟩:EntT)) (ysN ys (findE t[i] xs2)))=true:=hd
   rw [hd,if_pos rfl] at hsn
   have nx:=l3bNR K hM hν hH few j (i+1) (by omega) (by rw [hsn];simp)
   rw [hsn,List.length_append,show ([t[i]]:List ByteArray).length=1 from rfl,strs_app,strs_one] at nx
   refine Goes.reach K (k:=2) (n:=200) (o:=ff [0] true++[(2,.cells [.v (.string t[i])]),(8,.b true),(9,.app (strs ((t.take i).filter (difR ys [] xs2))) [.v (.string t[i])])]) (ren:=[(0,0),(1,1),(2,2),(3,3),(4,6)]) (eqs:=[0,3,4]) ?_ (by kernel_rfl) (fun i b h=>by rw [hν i b h];rfl) nx
   rw [rt1NR]
   simp only [Owed,wrap_succ (k:=i) (by omega),in_range hi,t1,cQ_name hq,cQ_closed,strs_closed,cE_closed,findS_closed,strs_flat,strs_len,strsOf_strs,nilE,List.all_append,entsOf_cE,leavesOf_cQ,and_self,and_true,true_and]
   repeat' apply And.intro
   all_goals first | rfl | omega | exact hd' | exact holdsE _ (by have:=hH.few;(try simp at this);omega) | exact findE_ok hH.sub1 _ | exact findE_ok hH.sub2 _ | exact List.take_of_length_le (by simp only [strs_len];omega) | skip
theorem l3aNR (K:Facts (ERb D ys) M W) (hM:∀ z,¬ M z) (hν:∀ i b,ν i=some b→i=0) (hH:RbH D [] xs2) {t:List ByteArray} (few:t.length≤1000):∀ (j i:Nat),i+j=t.length→((t.take i).filter (difR ys [] xs2))=[]→
  Goes (ERb D ys) M W cs0 10 (RRb W (t.filter (difR ys [] xs2))) ν (SM.at (h3NR (.sl 3 0 t.length none) nilE (i:Int)) 6 (obNR [] (cE xs2) 0 xs2.length [rowsQ (cQ t)]))
 | 0,i,hj,hne=>by
  rw [List.take_of_length_le (by omega)] at hne
  refine Goes.endsV K (n:=100) (o:=ff [0] false) (v:=.slice none 0 0) ?_ fun ν' M1 w1 s' w' _ hB' hr=>⟨below_of hM hB' hr,_,rfl,.inl ⟨hne,rfl⟩⟩
  rw [rz1NR]
  simp only [Owed,and_self,and_true,true_and]
  exact decide_eq_false (by omega)
 | j+1,i,hj,hne=>by
  have hi:i<t.length:=by omega
  have hq:t[i]?=some t[i]:=List.getElem?_eq_getElem hi
  have hfl:((t.take i).filter (difR ys [] xs2)).length≤1000:=Nat.le_trans (List.length_filter_le _ _) (by rw [List.length_take];omega)
  have hsn:=filter_snoc (D:=difR ys [] xs2) hi
  have t1:decide ((i:Int)<(t.length:Int))=true:=decide_eq_true (by omega)
  rw [hne,List.nil_append] at hsn
  cases hd:difR ys [] xs2 t[i]
  ·have hd':(!sameB (⟨t[i],0,0,none,0,0⟩:EntT) (findE t[i] xs2) (ysN ys (⟨t[i],0,0,none,0,0⟩:EntT)) (ysN ys (findE t[i] xs2)))=false:=hd
   rw [hd,if_neg (by decide)] at hsn
   have nx:=l3aNR K hM hν hH few j (i+1) (by omega) hsn
   refine Goes.reach K (k:=2) (n:=200) (o:=ff [0] true++[(2,.cells [.v (.string t[i])]),(8,.b false)]) (ren:=[(0,0),(1,1),(2,2),(3,3)]) (eqs:=[0,3]) ?_ (by kernel_rfl) (fun i b h=>by rw [hν i b h];rfl) nx
   rw [rf0NR (o:=[]) (o':=[]) (w:=[]) (r:=0)]
   simp only [Owed,wrap_succ (k:=i) (by omega),in_range hi,t1,cQ_name hq,cQ_closed,strs_closed,cE_closed,findS_closed,strs_flat,strs_len,strsOf_strs,nilE,List.all_append,entsOf_cE,leavesOf_cQ,and_self,and_true,true_and]
   repeat' apply And.intro
   all_goals first | rfl | omega | exact hd' | exact holdsE _ (by have:=hH.few;(try simp at this);omega) | exact findE_ok hH.sub1 _ | exact findE_ok hH.sub2 _ | exact List.take_of_length_le (by simp only [strs_len];omega) | skip
  ·have hd':(!sameB (⟨t[i],0,0,none,0,0⟩:EntT) (findE t[i] xs2) (ysN ys (⟨t[i],0,0,none,0,0⟩:EntT)) (ysN ys (findE t[i] xs2)))=true:=hd
   rw [hd,if_pos rfl] at hsn
   have nx:=l3bNR (cs0:=cs0) K hM hν hH few j (i+1) (by omega) (by rw [hsn];simp)
   rw [hsn,show ([t[i]]:List ByteArray).length=1 from rfl,strs_one] at nx
   refine Goes.reach K (k:=2) (n:=200) (o:=ff [0] true++[(2,.cells [.v (.string t[i])]),(8,.b true),(9,.b false)]) (ren:=[(0,0),(1,1),(2,2),(3,3),(4,5)]) (eqs:=[0,3,4]) ?_ (by kernel_rfl) (fun i b h=>by rw [hν i b h];rfl) nx
   rw [rt0NR (o:=[]) (w:=[]) (r:=0)]
   simp only [Owed,wrap_succ (k:=i) (by omega),in_range hi,t1,cQ_name hq,cQ_closed,strs_closed,cE_closed,findS_closed,strs_flat,strs_len,strsOf_strs,nilE,List.all_append,entsOf_cE,leavesOf_cQ,and_self,and_true,true_and]
   repeat' apply And.intro
   all_goals first | rfl | omega | exact hd' | exact holdsE _ (by have:=hH.few;(try simp at this);omega) | exact findE_ok hH.sub1 _ | exact findE_ok hH.sub2 _ | exact List.take_of_length_le (by simp only [strs_len];omega) | skip
theorem l2bNR (K:Facts (ERb D ys) M W) (hM:∀ z,¬ M z) (hν:∀ i b,ν i=some b→i=0) (hH:RbH D [] xs2) (ne2:xs2≠[]):∀ (j i:Nat),i+j=xs2.length→∀ t:List ByteArray,t≠[]→GoodT t (0+i)→
  Goes (ERb D ys) M W cs0 10 (RRb W ((putAll t ((xs2.map (·.p)).drop i)).filter (difR ys [] xs2))) ν (SM.at (h2NR (.sl 3 0 t.length none) (i:Int)) 6 (obNR [] (cE xs2) 0 xs2.length [rowsQ (cQ t)]))
 | 0,i,hj,t,ht,hg=>by
  have nx:=l3aNR (cs0:=cs0) K hM hν hH (t:=t) (by have h1:=hH.few;have h2:=hg.1;(try simp at h1);omega) t.length 0 (by omega) rfl
  rw [List.drop_eq_nil_of_le (by simp;omega)]
  refine Goes.reach K (k:=2) (n:=100) (o:=ff [0] false) (ren:=[(0,0),(1,1),(2,2),(3,3)]) (eqs:=[0,3]) (F:=h3NR (.sl 3 0 t.length none) nilE 0) (d:=6) (l:=obNR [] (cE xs2) 0 xs2.length [rowsQ (cQ t)]) ?_ (by kernel_rfl) (fun i b h=>by rw [hν i b h];rfl) nx
  rw [ry2NR]
  simp only [Owed,cQ_closed,cE_closed,nilE,decide_eq_false (show ¬ (i:Int)<(xs2.length:Int) by omega),and_self,and_true,true_and]
 | j+1,i,hj,t,ht,hg=>by
  have hi:i<xs2.length:=by omega
  have hq:xs2[i]?=some xs2[i]:=List.getElem?_eq_getElem hi
  have t1:decide ((i:Int)<(xs2.length:Int))=true:=decide_eq_true (by omega)
  have hz:=hH.size2 _ (List.getElem_mem hi)
  have nx:=l2bNR K hM hν hH ne2 j (i+1) (by omega) (putQ t xs2[i].p) (putQ_ne _ _) (hg.put hz)
  have hdr:(xs2.map (·.p)).drop i=xs2[i].p::(xs2.map (·.p)).drop (i+1):=by
   rw [List.drop_eq_getElem_cons (by simpa using hi)];simp
  rw [hdr]
  refine Goes.reach K (k:=2) (n:=100) (o:=ff [0] true++[(2,.cells [.v (.string xs2[i].p)])]) (ren:=[(0,0),(1,1),(2,2),(3,4)]) (eqs:=[0,3]) ?_ (by kernel_rfl) (fun i b h=>by rw [hν i b h];rfl) nx
  rw [rc2NR]
  simp only [Owed,wrap_succ (k:=i) (by have:=hH.few;(try simp at this);omega),in_range hi,t1,cE_name hq,leavesOf_cQ,cQ_map,cQ_closed,cE_closed,nilE,and_self,and_true,true_and]
  repeat' apply And.intro
  all_goals first | rfl | omega | exact holdsQ _ (by have h1:=hH.few;have h2:=hg.1;(try simp at h1);omega) | exact hz | exact hg.2 | skip
theorem l2aNR (K:Facts (ERb D ys) M W) (hM:∀ z,¬ M z) (hν:∀ i b,ν i=some b→i=0) (hH:RbH D [] xs2) (ne2:xs2≠[]):Goes (ERb D ys) M W cs0 10 (RRb W ((putAll [] (xs2.map (·.p))).filter (difR ys [] xs2))) ν (SM.at (h2NR nilE ((0:Nat):Int)) 6 (obNR [] (cE xs2) 0 xs2.length [])):=by
 have hi:0<xs2.length:=List.length_pos_iff.2 ne2
 have hq:xs2[0]?=some xs2[0]:=List.getElem?_eq_getElem hi
 have t1:decide (((0:Nat):Int)<(xs2.length:Int))=true:=decide_eq_true (by omega)
 have hz:=hH.size2 _ (List.getElem_mem hi)
 have hg0:GoodT [] 0:=⟨Nat.zero_le _,fun e he=>(nomatch he)⟩
 have nx:=l2bNR (cs0:=cs0) K hM hν hH ne2 (xs2.length - 1) 1 (by omega) (putQ [] xs2[0].p) (putQ_ne _ _) (hg0.put hz)
 have hdr:xs2.map (·.p)=xs2[0].p::(xs2.map (·.p)).drop 1:=by
  conv=>lhs;rw [← List.drop_zero (l:=xs2.map (·.p)),List.drop_eq_getElem_cons (by simpa using hi)]
  simp
 rw [show putAll [] (xs2.map (·.p))=putAll (putQ [] xs2[0].p) ((xs2.map (·.p)).drop 1) from (congrArg (putAll []) hdr).trans rfl]
 refine Goes.reach K (k:=2) (n:=100) (o:=ff [0] true++[(2,.cells [.v (.string xs2[0].p)])]) (ren:=[(0,0),(1,1),(2,2),(3,3)]) (eqs:=[0,3]) ?_ (by kernel_rfl) (fun i b h=>by rw [hν i b h];rfl) nx
 rw [rb2NR (k:=0)]
 simp only [Owed,wrap_succ (k:=0) (by omega),in_range hi,t1,cE_name hq,leavesOf_cQ,cQ_map,cQ_closed,cE_closed,nilE,and_self,and_true,true_and]
 repeat' apply And.intro
 all_goals first | rfl | omega | skip
theorem l1aNR (K:Facts (ERb D ys) M W) (hM:∀ z,¬ M z) (hν:∀ i b,ν i=some b→i=0) (hH:RbH D [] xs2) (ne2:xs2≠[]):Goes (ERb D ys) M W cs0 10 (RRb W ((putAll (putAll [] []) (xs2.map (·.p))).filter (difR ys [] xs2))) ν (SM.at (h1NR nilE ((0:Nat):Int)) 6 (obNR [] (cE xs2) 0 xs2.length [])):=by
 have nx:=l2aNR (cs0:=cs0) K hM hν hH ne2 
 refine Goes.reach K (k:=2) (n:=100) (o:=ff [0] false) (ren:=[(0,0),(1,1),(2,2)]) (eqs:=[0]) (F:=h2NR nilE 0) (d:=6) (l:=obNR [] (cE xs2) 0 xs2.length []) ?_ (by kernel_rfl) (fun i b h=>by rw [hν i b h];rfl) nx
 rw [rx1NR]
 simp only [Owed,cQ_closed,cE_closed,nilE,decide_eq_false (show ¬ ((0:Nat):Int)<((0:Nat):Int) by omega),and_self,and_true,true_and]
end
section
variable {W:World} {cs0:List Frame} {D:List EntT} {ys:EntT→List Int} {M:Own} {ν:Val}
theorem l2aNN (K:Facts (ERb D ys) M W) (hM:∀ z,¬ M z) (hν:∀ i b,ν i=some b→False) (hH:RbH D [] []):Goes (ERb D ys) M W cs0 10 (RRb W []) ν (SM.at (h2NN nilE ((0:Nat):Int)) 6 (obNN [] [] 0 0 [])):=by
 have nx:Goes (ERb D ys) M W cs0 10 (RRb W []) ν (SM.at (h3NN nilE nilE 0) 6 (obNN [] [] 0 0 [])):=by
  refine Goes.endsV K (n:=100) (o:=ff [0] false) (v:=.slice none 0 0) ?_ fun ν' M1 w1 s' w' _ hB' hr=>⟨below_of hM hB' hr,_,rfl,.inl ⟨rfl,rfl⟩⟩
  rw [rz0NN]
  simp only [Owed,and_self,and_true,true_and]
  rfl
 refine Goes.reach K (k:=2) (n:=100) (o:=ff [0] false) (ren:=[(0,0),(1,1)]) (eqs:=[]) ?_ (by kernel_rfl) (fun i b h=>(hν i b h).elim) nx
 rw [rx2NN]
 simp only [Owed,cQ_closed,cE_closed,nilE,decide_eq_false (show ¬ ((0:Nat):Int)<((0:Nat):Int) by omega),and_self,and_true,true_and]
theorem l1aNN (K:Facts (ERb D ys) M W) (hM:∀ z,¬ M z) (hν:∀ i b,ν i=some b→False) (hH:RbH D [] []):Goes (ERb D ys) M W cs0 10 (RRb W ((putAll (putAll [] []) []).filter (difR ys [] []))) ν (SM.at (h1NN nilE ((0:Nat):Int)) 6 (obNN [] [] 0 0 [])):=by
 have nx:=l2aNN (cs0:=cs0) K hM hν hH 
 refine Goes.reach K (k:=2) (n:=100) (o:=ff [0] false) (ren:=[(0,0),(1,1)]) (eqs:=[]) (F:=h2NN nilE 0) (d:=6) (l:=obNN [] [] 0 0 []) ?_ (by kernel_rfl) (fun i b h=>(hν i b h).elim) nx
 rw [rx1NN]
 simp only [Owed,cQ_closed,cE_closed,nilE,decide_eq_false (show ¬ ((0:Nat):Int)<((0:Nat):Int) by omega),and_self,and_true,true_and]
end
def RowAt (W:World) (y:Value) (xs:List EntT) (g c:Nat):Prop:=∃ rest,y=.slice (some ⟨g,0,none⟩) xs.length c∧xs.length≤c∧W.heap[g]?=some (.cells (vE xs++rest).toArray 46 (0,0))∧(vE xs++rest).length=c*4
theorem RowAt.or {W:World} {y:Value} {xs:List EntT} {g c:Nat} (h:RowAt W y xs g c) {ν:Val} {i:Nat} (hi:ν i=some (g,c)):∃ r,W.heap[g]?=some r∧OR ν i (.row (cE xs) 46 (0,0) (some 4)) r:=by
 obtain ⟨rest,rfl,hlc,hh,hsz⟩:=h
 exact ⟨_,hh,vE xs,rest,rfl,by rw [← cE_map];exact VRL.lits _ _,by rw [← cE_map,List.length_map,List.length_append];omega,(g,c),hi,hsz⟩
theorem RowAt.vr {W:World} {y:Value} {xs:List EntT} {g c:Nat} (h:RowAt W y xs g c) {ν:Val} {i:Nat} (hi:ν i=some (g,c)):VR ν (.sl i 0 xs.length none) y:=by
 obtain ⟨rest,rfl,hlc,hh,hsz⟩:=h
 exact VR.sl_iff.2 ⟨(g,c),hi,hlc,rfl⟩
theorem rbRR {W:World} {D:List EntT} {ys:EntT→List Int} {xs1:List EntT} {y1:Value} {g1 k1:Nat} {xs2:List EntT} {y2:Value} {g2 k2:Nat} (hX:∀ x∈D,Dat W x.a x.l (ys x)) (hH:RbH D xs1 xs2) (ne1:xs1≠[]) (h1:RowAt W y1 xs1 g1 k1) (ne2:xs2≠[]) (h2:RowAt W y2 xs2 g2 k2) (hne:g1≠g2):
  Calls Tryz.prog 10 #[.agg #[.int .u64 0,y1],.agg #[.int .u64 0,y2]] W (RRb W ((putAll (putAll [] (xs1.map (·.p))) (xs2.map (·.p))).filter (difR ys xs1 xs2))):=by
 have ho:∀ (j:Nat) (o':SO) (b' c':Nat),([SO.row (cE xs1) 46 (0,0) (some 4),SO.row (cE xs2) 46 (0,0) (some 4)]:List SO)[j]?=some o'→([(g1,k1),(g2,k2)]:List (Nat × Nat))[j]?=some (b',c')→∃ r,W.heap[b']?=some r∧OR (layVal [(g1,k1),(g2,k2)]) j o' r:=by
  intro j o' b' c' q1 q2
  match j with
  | 0=>
   simp only [List.getElem?_cons_zero,Option.some.injEq] at q1 q2
   subst q1
   cases q2
   exact h1.or rfl
  | 1=>
   simp only [List.getElem?_cons_succ,List.getElem?_cons_zero,Option.some.injEq] at q1 q2
   subst q1
   cases q2
   exact h2.or rfl
  | j+2=>simp at q1
 refine calls_readR (E:=ERb D ys) rfl (d:=6) (l:=[(g1,k1),(g2,k2)]) (os:=[SO.row (cE xs1) 46 (0,0) (some 4),SO.row (cE xs2) 46 (0,0) (some 4)]) rfl (by simp) (by simpa using hne) ho rfl (args:=[.agg [.v (.int .u64 0),.sl 0 0 xs1.length none],.agg [.v (.int .u64 0),.sl 1 0 xs2.length none]]) (a:=[.agg #[.int .u64 0,y1],.agg #[.int .u64 0,y2]]) (S0:=entRR D ys (cE xs1) (cE xs2) xs1.length xs2.length) (by kernel_rfl) (VRL.cons (VR.agg_iff.2 ⟨_,rfl,VRL.cons (VR.v_iff.2 rfl) (VRL.cons (h1.vr rfl) VRL.nil)⟩) (VRL.cons (VR.agg_iff.2 ⟨_,rfl,VRL.cons (VR.v_iff.2 rfl) (VRL.cons (h2.vr rfl) VRL.nil)⟩) VRL.nil)) fun cs0=>?_
 have hM:∀ z,¬ (layOwn [(g1,k1),(g2,k2)] (([SO.row (cE xs1) 46 (0,0) (some 4),SO.row (cE xs2) 46 (0,0) (some 4)]:List SO).map fun o=>(o,false))) z:=fun z=>layOwn_none (os:=[SO.row (cE xs1) 46 (0,0) (some 4),SO.row (cE xs2) 46 (0,0) (some 4)])
 have hK0:=Kept.start (H0:=W.hp) (M:=layOwn [(g1,k1),(g2,k2)] (([SO.row (cE xs1) 46 (0,0) (some 4),SO.row (cE xs2) 46 (0,0) (some 4)]:List SO).map fun o=>(o,false))) (w:=W) (Hp.Sub.refl _) (fun z o _=>hM z) (layOwn_r (by
  intro j o' m b' c' q1 q2
  rw [List.getElem?_map] at q1
  obtain ⟨o2,q3,q4⟩:=Option.map_eq_some_iff.1 q1
  cases q4
  exact ho j o' b' c' q3 q2)) (fun _ h=>h)
 have hν:∀ i c,layVal [(g1,k1),(g2,k2)] i=some c→i=0∨i=1:=fun i c h=>by
  match i with
  | 0=>exact .inl rfl
  | 1=>exact .inr rfl
  | i+2=>simp [layVal] at h
 have K:Facts (ERb D ys) (layOwn [(g1,k1),(g2,k2)] (([SO.row (cE xs1) 46 (0,0) (some 4),SO.row (cE xs2) 46 (0,0) (some 4)]:List SO).map fun o=>(o,false))) W:=KRb hM hK0.base hX
 have nx:=l1aRR (cs0:=cs0) K hM hν hH ne1 ne2 
 refine Goes.reach K (k:=2) (n:=100) (o:=[(1000,.b true)]) (ren:=[(0,0),(1,1),(2,2),(3,3)]) (eqs:=[0,1]) (F:=h1RR nilE 0) (d:=6) (l:=obRR (cE xs1) (cE xs2) xs1.length xs2.length []) ?_ (by kernel_rfl) (fun i b h=>by rcases hν i b h with h | h <;> rw [h] <;> rfl) nx
 rw [ra0RR]
 simp only [Owed,cE_closed,nilE,and_self,and_true,true_and]
theorem rbRN {W:World} {D:List EntT} {ys:EntT→List Int} {xs1:List EntT} {y1:Value} {g1 k1:Nat} (hX:∀ x∈D,Dat W x.a x.l (ys x)) (hH:RbH D xs1 []) (ne1:xs1≠[]) (h1:RowAt W y1 xs1 g1 k1):
  Calls Tryz.prog 10 #[.agg #[.int .u64 0,y1],.agg #[.int .u64 0,(.slice none 0 0)]] W (RRb W ((putAll (putAll [] (xs1.map (·.p))) []).filter (difR ys xs1 []))):=by
 have ho:∀ (j:Nat) (o':SO) (b' c':Nat),([SO.row (cE xs1) 46 (0,0) (some 4)]:List SO)[j]?=some o'→([(g1,k1)]:List (Nat × Nat))[j]?=some (b',c')→∃ r,W.heap[b']?=some r∧OR (layVal [(g1,k1)]) j o' r:=by
  intro j o' b' c' q1 q2
  match j with
  | 0=>
   simp only [List.getElem?_cons_zero,Option.some.injEq] at q1 q2
   subst q1
   cases q2
   exact h1.or rfl
  | j+1=>simp at q1
 refine calls_readR (E:=ERb D ys) rfl (d:=6) (l:=[(g1,k1)]) (os:=[SO.row (cE xs1) 46 (0,0) (some 4)]) rfl (by simp) (by simp) ho rfl (args:=[.agg [.v (.int .u64 0),.sl 0 0 xs1.length none],.agg [.v (.int .u64 0),.v (.slice none 0 0)]]) (a:=[.agg #[.int .u64 0,y1],.agg #[.int .u64 0,(.slice none 0 0)]]) (S0:=entRN D ys (cE xs1) [] xs1.length 0) (by kernel_rfl) (VRL.cons (VR.agg_iff.2 ⟨_,rfl,VRL.cons (VR.v_iff.2 rfl) (VRL.cons (h1.vr rfl) VRL.nil)⟩) (VRL.cons (VR.agg_iff.2 ⟨_,rfl,VRL.cons (VR.v_iff.2 rfl) (VRL.cons (VR.v_iff.2 rfl) VRL.nil)⟩) VRL.nil)) fun cs0=>?_
 have hM:∀ z,¬ (layOwn [(g1,k1)] (([SO.row (cE xs1) 46 (0,0) (some 4)]:List SO).map fun o=>(o,false))) z:=fun z=>layOwn_none (os:=[SO.row (cE xs1) 46 (0,0) (some 4)])
 have hK0:=Kept.start (H0:=W.hp) (M:=layOwn [(g1,k1)] (([SO.row (cE xs1) 46 (0,0) (some 4)]:List SO).map fun o=>(o,false))) (w:=W) (Hp.Sub.refl _) (fun z o _=>hM z) (layOwn_r (by
  intro j o' m b' c' q1 q2
  rw [List.getElem?_map] at q1
  obtain ⟨o2,q3,q4⟩:=Option.map_eq_some_iff.1 q1
  cases q4
  exact ho j o' b' c' q3 q2)) (fun _ h=>h)
 have hν:∀ i c,layVal [(g1,k1)] i=some c→i=0:=fun i c h=>by
  match i with
  | 0=>rfl
  | i+1=>simp [layVal] at h
 have K:Facts (ERb D ys) (layOwn [(g1,k1)] (([SO.row (cE xs1) 46 (0,0) (some 4)]:List SO).map fun o=>(o,false))) W:=KRb hM hK0.base hX
 have nx:=l1aRN (cs0:=cs0) K hM hν hH ne1 
 refine Goes.reach K (k:=2) (n:=100) (o:=[(1000,.b true)]) (ren:=[(0,0),(1,1),(2,2)]) (eqs:=[0]) (F:=h1RN nilE 0) (d:=6) (l:=obRN (cE xs1) [] xs1.length 0 []) ?_ (by kernel_rfl) (fun i b h=>by rw [hν i b h];rfl) nx
 rw [ra0RN]
 simp only [Owed,cE_closed,nilE,and_self,and_true,true_and]
theorem rbNR {W:World} {D:List EntT} {ys:EntT→List Int} {xs2:List EntT} {y2:Value} {g2 k2:Nat} (hX:∀ x∈D,Dat W x.a x.l (ys x)) (hH:RbH D [] xs2) (ne2:xs2≠[]) (h2:RowAt W y2 xs2 g2 k2):
  Calls Tryz.prog 10 #[.agg #[.int .u64 0,(.slice none 0 0)],.agg #[.int .u64 0,y2]] W (RRb W ((putAll (putAll [] []) (xs2.map (·.p))).filter (difR ys [] xs2))):=by
 have ho:∀ (j:Nat) (o':SO) (b' c':Nat),([SO.row (cE xs2) 46 (0,0) (some 4)]:List SO)[j]?=some o'→([(g2,k2)]:List (Nat × Nat))[j]?=some (b',c')→∃ r,W.heap[b']?=some r∧OR (layVal [(g2,k2)]) j o' r:=by
  intro j o' b' c' q1 q2
  match j with
  | 0=>
   simp only [List.getElem?_cons_zero,Option.some.injEq] at q1 q2
   subst q1
   cases q2
   exact h2.or rfl
  | j+1=>simp at q1
 refine calls_readR (E:=ERb D ys) rfl (d:=6) (l:=[(g2,k2)]) (os:=[SO.row (cE xs2) 46 (0,0) (some 4)]) rfl (by simp) (by simp) ho rfl (args:=[.agg [.v (.int .u64 0),.v (.slice none 0 0)],.agg [.v (.int .u64 0),.sl 0 0 xs2.length none]]) (a:=[.agg #[.int .u64 0,(.slice none 0 0)],.agg #[.int .u64 0,y2]]) (S0:=entNR D ys [] (cE xs2) 0 xs2.length) (by kernel_rfl) (VRL.cons (VR.agg_iff.2 ⟨_,rfl,VRL.cons (VR.v_iff.2 rfl) (VRL.cons (VR.v_iff.2 rfl) VRL.nil)⟩) (VRL.cons (VR.agg_iff.2 ⟨_,rfl,VRL.cons (VR.v_iff.2 rfl) (VRL.cons (h2.vr rfl) VRL.nil)⟩) VRL.nil)) fun cs0=>?_
 have hM:∀ z,¬ (layOwn [(g2,k2)] (([SO.row (cE xs2) 46 (0,0) (some 4)]:List SO).map fun o=>(o,false))) z:=fun z=>layOwn_none (os:=[SO.row (cE xs2) 46 (0,0) (some 4)])
 have hK0:=Kept.start (H0:=W.hp) (M:=layOwn [(g2,k2)] (([SO.row (cE xs2) 46 (0,0) (some 4)]:List SO).map fun o=>(o,false))) (w:=W) (Hp.Sub.refl _) (fun z o _=>hM z) (layOwn_r (by
  intro j o' m b' c' q1 q2
  rw [List.getElem?_map] at q1
  obtain ⟨o2,q3,q4⟩:=Option.map_eq_some_iff.1 q1
  cases q4
  exact ho j o' b' c' q3 q2)) (fun _ h=>h)
 have hν:∀ i c,layVal [(g2,k2)] i=some c→i=0:=fun i c h=>by
  match i with
  | 0=>rfl
  | i+1=>simp [layVal] at h
 have K:Facts (ERb D ys) (layOwn [(g2,k2)] (([SO.row (cE xs2) 46 (0,0) (some 4)]:List SO).map fun o=>(o,false))) W:=KRb hM hK0.base hX
 have nx:=l1aNR (cs0:=cs0) K hM hν hH ne2 
 refine Goes.reach K (k:=2) (n:=100) (o:=[(1000,.b true)]) (ren:=[(0,0),(1,1),(2,2)]) (eqs:=[0]) (F:=h1NR nilE 0) (d:=6) (l:=obNR [] (cE xs2) 0 xs2.length []) ?_ (by kernel_rfl) (fun i b h=>by rw [hν i b h];rfl) nx
 rw [ra0NR]
 simp only [Owed,cE_closed,nilE,and_self,and_true,true_and]
theorem rbNN {W:World} {D:List EntT} {ys:EntT→List Int} (hX:∀ x∈D,Dat W x.a x.l (ys x)) (hH:RbH D [] []):
  Calls Tryz.prog 10 #[.agg #[.int .u64 0,(.slice none 0 0)],.agg #[.int .u64 0,(.slice none 0 0)]] W (RRb W ((putAll (putAll [] []) []).filter (difR ys [] []))):=by
 have ho:∀ (j:Nat) (o':SO) (b' c':Nat),([]:List SO)[j]?=some o'→([]:List (Nat × Nat))[j]?=some (b',c')→∃ r,W.heap[b']?=some r∧OR (layVal []) j o' r:=by
  intro j o' b' c' q1 q2
  match j with
  | j=>simp at q1
 refine calls_readR (E:=ERb D ys) rfl (d:=6) (l:=[]) (os:=[]) rfl (by simp) (by simp) ho rfl (args:=[.agg [.v (.int .u64 0),.v (.slice none 0 0)],.agg [.v (.int .u64 0),.v (.slice none 0 0)]]) (a:=[.agg #[.int .u64 0,(.slice none 0 0)],.agg #[.int .u64 0,(.slice none 0 0)]]) (S0:=entNN D ys [] [] 0 0) (by kernel_rfl) (VRL.cons (VR.agg_iff.2 ⟨_,rfl,VRL.cons (VR.v_iff.2 rfl) (VRL.cons (VR.v_iff.2 rfl) VRL.nil)⟩) (VRL.cons (VR.agg_iff.2 ⟨_,rfl,VRL.cons (VR.v_iff.2 rfl) (VRL.cons (VR.v_iff.2 rfl) VRL.nil)⟩) VRL.nil)) fun cs0=>?_
 have hM:∀ z,¬ (layOwn [] (([]:List SO).map fun o=>(o,false))) z:=fun z=>layOwn_none (os:=[])
 have hK0:=Kept.start (H0:=W.hp) (M:=layOwn [] (([]:List SO).map fun o=>(o,false))) (w:=W) (Hp.Sub.refl _) (fun z o _=>hM z) (layOwn_r (by
  intro j o' m b' c' q1 q2
  rw [List.getElem?_map] at q1
  obtain ⟨o2,q3,q4⟩:=Option.map_eq_some_iff.1 q1
  cases q4
  exact ho j o' b' c' q3 q2)) (fun _ h=>h)
 have hν:∀ i c,layVal [] i=some c→False:=fun i c h=>by
  match i with
  | i=>simp [layVal] at h
 have K:Facts (ERb D ys) (layOwn [] (([]:List SO).map fun o=>(o,false))) W:=KRb hM hK0.base hX
 have nx:=l1aNN (cs0:=cs0) K hM hν hH 
 refine Goes.reach K (k:=2) (n:=100) (o:=[(1000,.b true)]) (ren:=[(0,0),(1,1)]) (eqs:=[]) (F:=h1NN nilE 0) (d:=6) (l:=obNN [] [] 0 0 []) ?_ (by kernel_rfl) (fun i b h=>(hν i b h).elim) nx
 rw [ra0NN]
 simp only [Owed,cE_closed,nilE,and_self,and_true,true_and]
def ltN (a b:ByteArray):Prop:=cmpN a b<0
theorem ltN_tri (a b:ByteArray):ltN a b∨a=b∨ltN b a:=by
 have n1:=cmpN_neg a b
 unfold ltN
 rcases Int.lt_trichotomy (cmpN a b) 0 with h | h | h
 ·exact .inl h
 ·exact .inr (.inl (cmpN_zero h))
 ·exact .inr (.inr (by omega))
theorem ltN_irr (a:ByteArray):¬ ltN a a:=by
 unfold ltN;rw [cmpN_self];decide
theorem insQ_sorted {x:ByteArray}:∀ {l:List ByteArray},l.Pairwise ltN→(∀ e∈l,e≠x)→(insQ x l).Pairwise ltN
 | [],_,_=>by simp [insQ]
 | a::l,h,hx=>by
  obtain ⟨h1,h2⟩:=List.pairwise_cons.1 h
  have hax:a≠x:=hx a List.mem_cons_self
  unfold insQ
  split
  ·rename_i hc
   have hxa:ltN x a:=by
    have n1:=cmpN_neg a x
    unfold ltN;omega
   refine List.pairwise_cons.2 ⟨fun e he=>?_,h⟩
   rcases List.mem_cons.1 he with rfl | he
   ·exact hxa
   ·exact cmpN_trans hxa (h1 e he)
  ·rename_i hc
   have hax2:ltN a x:=by
    rcases ltN_tri a x with h | h | h
    ·exact h
    ·exact absurd h hax
    ·have n1:=cmpN_neg a x
     unfold ltN at h;omega
   refine List.pairwise_cons.2 ⟨fun e he=>?_,insQ_sorted h2 fun e he=>hx e (List.mem_cons_of_mem _ he)⟩
   rcases insQ_mem.1 he with rfl | he
   ·exact hax2
   ·exact h1 e he
theorem putQ_sorted {l:List ByteArray} (h:l.Pairwise ltN) (q:ByteArray):(putQ l q).Pairwise ltN:=by
 unfold putQ
 refine insQ_sorted (h.filter _) fun e he heq=>?_
 have:=(List.mem_filter.1 he).2
 rw [heq] at this
 have hq:isQ q q=true:=isQ_iff.2 rfl
 rw [hq] at this;cases this
theorem putAll_sorted:∀ {l t:List ByteArray},t.Pairwise ltN→(putAll t l).Pairwise ltN
 | [],t,h=>h
 | q::l,t,h=>putAll_sorted (l:=l) (putQ_sorted h q)
theorem nodup_of {l:List ByteArray} (h:l.Pairwise ltN):l.Nodup:=List.Pairwise.imp (fun hab he=>by subst he;exact ltN_irr _ hab) h
theorem strict_unique {l m:List ByteArray} (hl:l.Pairwise ltN) (hm:m.Pairwise ltN) (h:∀ e,e∈l↔e∈m):l=m:=by
 have hp:l.Perm m:=(List.perm_ext_iff_of_nodup (nodup_of hl) (nodup_of hm)).2 h
 refine List.Perm.eq_of_pairwise (le:=fun a b=>ltN a b) (fun a b _ _ h1 h2=>absurd (cmpN_trans h1 h2:ltN a a) (ltN_irr a)) hl hm hp
theorem compact_mem {α:Type} [DecidableEq α] [Inhabited α] {zs:List α} {x:α}:x∈Lib.compact zs↔x∈zs:=by
 unfold Lib.compact Lib.compactUpTo
 rw [List.mem_map]
 constructor
 ·rintro ⟨i,hi,rfl⟩
  have hlt:=List.mem_range.1 (List.mem_filter.1 hi).1
  rw [getElem!_pos zs.toArray i (by simpa using hlt)]
  simp
 ·intro hx
  obtain ⟨i,hi,hxi⟩:=List.getElem_of_mem hx
  have key:∀ n i (hi:i<zs.length),i≤n→∃ j,j∈(List.range zs.length).filter (Lib.keeps zs.toArray)∧zs.toArray[j]! = zs[i]:=by
   intro n
   induction n with
   | zero=>
    intro i hi hn
    obtain rfl:i=0:=by omega
    refine ⟨0,List.mem_filter.2 ⟨List.mem_range.2 hi,by simp [Lib.keeps]⟩,?_⟩
    rw [getElem!_pos zs.toArray 0 (by simpa using hi)];simp
   | succ n ih=>
    intro i hi hn
    by_cases hk:Lib.keeps zs.toArray i=true
    ·refine ⟨i,List.mem_filter.2 ⟨List.mem_range.2 hi,hk⟩,?_⟩
     rw [getElem!_pos zs.toArray i (by simpa using hi)];simp
    ·have hk:¬ (i=0∨zs.toArray[i]!≠zs.toArray[i - 1]!):=fun h=>hk (decide_eq_true h)
     rw [not_or] at hk
     obtain ⟨h0,h1⟩:=hk
     have h1:=Classical.not_not.1 h1
     obtain ⟨j,hj,hje⟩:=ih (i - 1) (by omega) (by omega)
     refine ⟨j,hj,hje.trans ?_⟩
     rw [getElem!_pos zs.toArray i (by simpa using hi),getElem!_pos zs.toArray (i - 1) (by simp;omega)] at h1
     simpa using h1.symm
  obtain ⟨j,hj,hje⟩:=key i i hi (Nat.le_refl _)
  exact ⟨j,hj,hje.trans hxi⟩
theorem nameC_mem {L:List ByteArray} {e:ByteArray}:e∈nameC L↔e∈L:=by
 unfold nameC
 rw [List.mem_map]
 constructor
 ·rintro ⟨x,hx,rfl⟩
  obtain ⟨s,hs,rfl⟩:=List.mem_map.1 (compact_mem.1 hx)
  simpa using hs
 ·intro he
  exact ⟨e.data.toList,compact_mem.2 (List.mem_map.2 ⟨e,he,rfl⟩),by simp⟩
theorem nameC_sorted {L:List ByteArray} (h:L.Pairwise fun a b=>leN a b=true):(nameC L).Pairwise ltN:=by
 unfold nameC Lib.compact Lib.compactUpTo
 rw [List.map_map,List.pairwise_map]
 refine List.Pairwise.imp_of_mem ?_ ((List.pairwise_lt_range (n:=(L.map fun s:ByteArray=>s.data.toList).length)).filter _)
 intro i j hi hj hij
 obtain ⟨hi1,hi2⟩:=List.mem_filter.1 hi
 obtain ⟨hj1,hj2⟩:=List.mem_filter.1 hj
 have hil:=List.mem_range.1 hi1
 have hjl:=List.mem_range.1 hj1
 simp only [List.length_map] at hil hjl
 have at_:∀ k (hk:k<L.length),(L.map fun s:ByteArray=>s.data.toList).toArray[k]! = L[k].data.toList:=fun k hk=>by
  rw [getElem!_pos _ k (by simpa using hk)];simp
 have hk:j=0∨(L.map fun s:ByteArray=>s.data.toList).toArray[j]!≠(L.map fun s:ByteArray=>s.data.toList).toArray[j - 1]!:=of_decide_eq_true hj2
 have hk:=hk.resolve_left (by omega)
 rw [at_ j hjl,at_ (j - 1) (by omega)] at hk
 show ltN (⟨((L.map fun s:ByteArray=>s.data.toList).toArray[i]!).toArray⟩:ByteArray) ⟨((L.map fun s:ByteArray=>s.data.toList).toArray[j]!).toArray⟩
 rw [at_ i hil,at_ j hjl]
 have e1:∀ b:ByteArray,(⟨b.data.toList.toArray⟩:ByteArray)=b:=fun b=>by simp
 rw [e1,e1]
 have hle:∀ {a b:ByteArray},leN a b=true→ltN a b∨a=b:=fun {a b} h=>by
  rcases ltN_tri a b with h1 | h1 | h1
  ·exact .inl h1
  ·exact .inr h1
  ·have:=leN_anti h (lt_le h1)
   exact .inr this
 have p1:ltN L[j - 1] L[j]:=by
  rcases hle (List.pairwise_iff_getElem.1 h (j - 1) j (by omega) hjl (by omega)) with h1 | h1
  ·exact h1
  ·exact absurd (by rw [h1]) hk
 rcases Nat.lt_or_ge i (j - 1) with hlt | hge
 ·rcases hle (List.pairwise_iff_getElem.1 h i (j - 1) hil (by omega) hlt) with h1 | h1
  ·exact cmpN_trans h1 p1
  ·rw [h1];exact p1
 ·have:i=j - 1:=by omega
  subst this;exact p1
theorem names_one {L1 L2 N1 N2:List ByteArray} (h1:∀ e,e∈L1↔e∈N1) (h2:∀ e,e∈L2↔e∈N2):nameC (sortN (L1++L2))=putAll (putAll [] N1) N2:=by
 refine strict_unique (nameC_sorted (sortN_sorted _)) (putAll_sorted (putAll_sorted List.Pairwise.nil)) fun e=>?_
 rw [nameC_mem,(sortN_perm _).mem_iff,List.mem_append,putAll_mem,putAll_mem,h1,h2]
 simp
end paths
end Go.Proofs.YtbjmmnegkpeboaaGreat
set_option linter.unusedSimpArgs false
set_option linter.unusedVariables false
set_option maxRecDepth 100000
namespace Go.Proofs.YtbjmmnegkpeboaaGreat
open Go Go.Rx Go.RowKit Go.Proofs Go.Sort
namespace paths
theorem collect_nil {w:World} {x:Nat} (hx:w.heap[x]?=some (.cells #[.map none] 82 (0,0))):
  Calls Tryz.prog 91 #[.func (.func 92) #[] #[.pointer (some ⟨x,0,none⟩)]] w fun e w'=>e=.returned (.slice none 0 0)∧Below w.heap.size w w':=by
 have hxl:x<w.heap.size:=(Array.getElem?_eq_some_iff.1 hx).1
 have hseq:SeqGives Fence.wide 3 Tryz.prog 92 #[.pointer (some ⟨x,0,none⟩)] encStr (fun ss:List (List UInt8)=>ss=[]) 0 w:=
  AnyZ.keys_gives_nil (ρ:=laysKe_ren) { laysKe with } Fence.wide 3 trivial rfl x w hxl (by rw [cell_at hx];rfl)
 have h:=AnyZ.collect_in laysCo Fence.wide 5 trivial trivial rfl (by omega) 92 #[.pointer (some ⟨x,0,none⟩)] trivial (enters_of Tryz.func92 (by kernel_rfl) rfl) _ 0 (by decide) (by omega) w hseq
 exact (callsIn_wide.1 h).mono fun e w' ⟨v,ss,he,hp,hrow,hnil,hb⟩=>⟨by rw [he,hnil.2 hp],hb⟩
theorem sorted_nil {w:World} {x:Nat} (hx:w.heap[x]?=some (.cells #[.map none] 82 (0,0))):
  Calls Tryz.prog 66 #[.func (.func 92) #[] #[.pointer (some ⟨x,0,none⟩)],.func (.func 21) #[] #[]] w fun e w'=>e=.returned (.slice none 0 0)∧Below w.heap.size w w':=by
 have hc:=collect_nil hx
 clear hx
 go_enter Tryz.func66,Tryz.ntmps66
 go_wp2_with (first
  | (go_at_call 91;refine hc.mono ?_;rintro e W ⟨rfl,hb⟩)
  | (go_at_call 20;refine (AnyF.slices_SortFunc_none { laysSF with } none 0 _ W).mono ?_;rintro e w' ⟨rfl,rfl⟩))
 go_ret
 exact ⟨rfl,hb⟩
theorem paths_nil {w:World} {b:Nat} {s:Int} (hb:w.heap[b]?=some (.cells #[.int .u64 s,.map none] 84 (0,0))):
  Calls Tryz.prog 43 #[.pointer (some ⟨b,0,none⟩)] w fun e w'=>e=.returned (.slice none 0 0)∧Below w.heap.size w w':=by
 have h1:w.cell? ⟨b,1,none⟩=some (.map none):=by rw [cell_at hb];rfl
 have hbl:Below w.heap.size w (w.alloc (.cells #[.map none] 82)):=(Below.refl _ _).alloc (Nat.le_refl _) _
 have cs:=sorted_nil (w:=w.alloc (.cells #[.map none] 82)) (x:=w.heap.size) (show (w.heap.push _)[w.heap.size]?=some _ by rw [Array.getElem?_push_size])
 have ck:=callsIn_wide.1 (AnyZ.keys_in laysKe Fence.wide 5 trivial rfl none w)
 clear hb
 go_enter Tryz.func43,Tryz.ntmps43
 go_wp2_with (first
  | (go_at_call 67;refine ck.mono ?_;rintro e w' ⟨rfl,rfl⟩)
  | (go_at_call 66;refine cs.mono ?_;rintro e w' ⟨rfl,hb2⟩))
 go_ret
 exact ⟨rfl,hbl.trans (hb2.mono hbl.size)⟩
def bkZ (s:Int):Option (SO × Bool):=some (.row [.v (.int .u64 s),.v (.map none)] 84 (0,0) none,false)
noncomputable def entGZ (s:Int) (p:ByteArray):SM:=(enterS EN0 25 [.ptr 0 0,.v (.string p)] (memOf 6 1 0 [bkZ s])).getD noSM
def pathsZ:PlG:=fun args sh=>match args with
 | [.ptr i 0]=>match sh.look i with
  | some (.row [.v (.int .u64 s),.v u] t z x,_)=>some (.slice none 0 0,t=84∧z=(0,0)∧x=none∧u=.map none)
  | _=>none
 | _=>none
def lEz:List (FuncId × Sum):=[(43,plSumG pathsZ)]
noncomputable def EEz:Env:={ EP [] [] with sums:=fun f=>lEz.lookup f }
noncomputable def entEz (s:Int):SM:=(enterS EEz 19 [.ptr 0 0] (memOf 6 1 0 [bkZ s])).getD noSM
theorem gz (s : Int) (p : ByteArray) (v : Value) : endsV EN0 25 100 (entGZ s p) [(1000, .b true)] v = [
  Value.agg
   {
   toList :=
   [Value.string p, Value.int IntKind.u64 (0 : Int), Value.int IntKind.i64 (0 : Int),
   Value.slice none (0 : Nat) (0 : Nat)] :
   Array Value } =
   v] := by kernel_rfl
theorem ez (s : Int) (v : Value) : endsV EEz 19 100 (entEz s) [(1000, .b true)] v = [
  Value.slice none (0 : Nat) (0 : Nat) = v,
  (84 : Nat) = (84 : Nat) ∧
   ((0 : Nat), (0 : Nat)) = ((0 : Nat), (0 : Nat)) ∧ (none : Option Nat) = none ∧ Value.map none = Value.map none] := by kernel_rfl
theorem bkz_or {w:World} {b:Nat} {s:Int} (hb:w.heap[b]?=some (.cells #[.int .u64 s,.map none] 84 (0,0))):∀ (j:Nat) (o':SO) (b' c':Nat),[SO.row [.v (.int .u64 s),.v (.map none)] 84 (0,0) none][j]?=some o'→[(b,0)][j]?=some (b',c')→∃ r,w.heap[b']?=some r∧OR (layVal [(b,0)]) j o' r:=by
 intro j o' b' c' h1 h2
 match j with
 | 0=>
  simp only [List.getElem?_cons_zero,Option.some.injEq] at h1 h2
  subst h1
  cases h2
  exact ⟨_,hb,_,[],rfl,VRL.cons (VR.v_iff.2 rfl) (VRL.cons (VR.v_iff.2 rfl) VRL.nil),rfl⟩
 | j+1=>simp at h1
theorem get_nil {w:World} {b:Nat} {s:Int} (hb:w.heap[b]?=some (.cells #[.int .u64 s,.map none] 84 (0,0))) (p:ByteArray):
  Calls Tryz.prog 25 #[.pointer (some ⟨b,0,none⟩),.string p] w fun e w'=>Below w.heap.size w w'∧e=.returned (.agg #[.string p,.int .u64 0,.int .i64 0,.slice none 0 0]):=by
 refine calls_readR (E:=EN0) rfl (d:=6) (l:=[(b,0)]) (os:=[.row [.v (.int .u64 s),.v (.map none)] 84 (0,0) none]) rfl (by simp) (by simp) (bkz_or hb) rfl (args:=[.ptr 0 0,.v (.string p)]) (a:=[.pointer (some ⟨b,0,none⟩),.string p]) (S0:=entGZ s p) (by kernel_rfl) (VRL.cons (VR.ptr_iff.2 ⟨(b,0),rfl,rfl⟩) (VRL.cons (VR.v_iff.2 rfl) VRL.nil)) fun cs0=>?_
 refine Goes.endsV KN0 (n:=100) (o:=[(1000,.b true)]) (v:=.agg #[.string p,.int .u64 0,.int .i64 0,.slice none 0 0]) ?_ fun ν' M1 w1 s' w' _ hB' hr=>⟨below_of (fun z=>layOwn_none (os:=[_])) hB' hr,rfl⟩
 rw [gz]
 simp only [Owed,and_self,and_true,true_and]
theorem pathsZ_sum {X:World→Prop}:SumOK Tryz.prog X (43,plSumG pathsZ):=by
 refine plSumG_ok ⟨_,Tryz.func43,by kernel_rfl,by kernel_rfl⟩ fun args sh v p h hp ν M w0 w a hr hX ha=>?_
 dsimp only [pathsZ] at h
 split at h
 ·rename_i i
  split at h
  ·rename_i s u t z x m1 hi
   cases h
   obtain ⟨rfl,rfl,rfl,rfl⟩:=hp
   obtain ⟨y1,as1,rfl,q1,ha2⟩:=ha.cons_inv
   obtain rfl:=ha2.nil_inv
   obtain ⟨bb,hbb,rfl⟩:=VR.ptr_iff.1 q1
   obtain ⟨_,_,b,ob,hb,ho,hor,_⟩:=hr.look hi
   rw [hbb] at hb;cases hb
   obtain ⟨zs,rest,rfl,hzs,hl⟩:=hor
   obtain ⟨z1,u,rfl,r1,hu⟩:=hzs.cons_inv
   obtain ⟨z2,u2,rfl,r2,hu2⟩:=hu.cons_inv
   obtain rfl:=hu2.nil_inv
   obtain rfl:=VR.v_iff.1 r1
   obtain rfl:=VR.v_iff.1 r2
   have h0:rest=[]:=by
    have:([Value.int .u64 s,Value.map none]++rest).length=2:=hl
    simpa using this
   subst h0
   exact (paths_nil ho).mono fun e w' ⟨he,hB⟩=>⟨hB,he⟩
  ·cases h
 ·cases h
theorem entries_nil {w:World} {b:Nat} {s:Int} (hb:w.heap[b]?=some (.cells #[.int .u64 s,.map none] 84 (0,0))):
  Calls Tryz.prog 19 #[.pointer (some ⟨b,0,none⟩)] w fun e w'=>Below w.heap.size w w'∧e=.returned (.slice none 0 0):=by
 refine calls_readR (E:=EEz) rfl (d:=6) (l:=[(b,0)]) (os:=[.row [.v (.int .u64 s),.v (.map none)] 84 (0,0) none]) rfl (by simp) (by simp) (bkz_or hb) rfl (args:=[.ptr 0 0]) (a:=[.pointer (some ⟨b,0,none⟩)]) (S0:=entEz s) (by kernel_rfl) (VRL.cons (VR.ptr_iff.2 ⟨(b,0),rfl,rfl⟩) VRL.nil) fun cs0=>?_
 have K:Facts EEz (layOwn [(b,0)] ([SO.row [.v (.int .u64 s),.v (.map none)] 84 (0,0) none].map fun o=>(o,false))) w:=
  Facts.of' (Checked.mixed Tryz.checked) (by kernel_rfl) (ExtOK.of extL rfl extRows) (SumsOK.list (X:=fun _=>True) (l:=lEz) rfl (fun r h=>by
   rw [List.mem_singleton.1 h];exact pathsZ_sum) fun ν s w hr _=>trivial) (fun f g h=>by cases h)
 refine Goes.endsV K (n:=100) (o:=[(1000,.b true)]) (v:=.slice none 0 0) ?_ fun ν' M1 w1 s' w' _ hB' hr=>⟨below_of (fun z=>layOwn_none (os:=[_])) hB' hr,rfl⟩
 rw [ez]
 simp only [Owed,and_self,and_true,true_and]
end paths
end Go.Proofs.YtbjmmnegkpeboaaGreat
set_option linter.unusedSimpArgs false
set_option linter.unusedVariables false
set_option maxRecDepth 100000
namespace Go.Proofs.YtbjmmnegkpeboaaGreat
open Go Go.Rx Go.RowKit Go.Proofs
namespace paths
theorem below_sub {W w:World} (h:Below W.heap.size W w):W.hp.Sub w.hp:=fun b o hb=>by
 have hlt:=(Array.getElem?_eq_some_iff.1 hb).1
 exact (h.block b hlt).trans hb
theorem MX.sub {W w:World} (h:MX W) (hs:W.hp.Sub w.hp):MX w:=h.keep (sub_keep (Hp.Sub.refl _) hs)
theorem bookH_nil {w:World} {b:Nat} {c:EntT→List Int} (hb:w.heap[b]?=some (.cells #[.int .u64 0,.map none] 84 (0,0))):BookH w b c [] []:=
 ⟨⟨_,_,_,hb,rfl⟩,fun H w2 h0 hs p=>(get_nil (hs _ _ (h0 _ _ hb)) p).mono fun e w' ⟨hB,he⟩=>⟨hB,⟨p,0,0,none,0,0⟩,[],he,rfl,rfl,fun w3 _=>dat_none⟩,
  fun w2 hs=>(entries_nil (hs _ _ hb)).mono fun e w' ⟨hB,he⟩=>⟨hB,_,he,.inl ⟨rfl,rfl⟩⟩,⟨Nat.zero_le _,fun s hs=>(nomatch hs)⟩⟩
theorem bookH_map {w:World} {b m cl:Nat} {E:List EntM} {c:EntT→List Int} (hm:MX w) (hA:BookAt w b m 0 E cl) (hB:BookOK E cl) (hd:∀ e∈E,Dat w e.1.a e.1.l (c e.1)) (few:E.length≤1000):BookH w b c (E.map (·.1)) (sortN (E.map fun e=>e.1.p)):=by
 have hne:b≠m:=fun h=>by
  have h1:=hA.row
  rw [h,hA.map] at h1;cases h1
 have up:∀ {w2:World},w.hp.Sub w2.hp→BookAt w2 b m 0 E cl∧∀ e∈E,Dat w2 e.1.a e.1.l (c e.1):=fun {w2} hs=>
  ⟨⟨hs _ _ hA.row,hs _ _ hA.map⟩,fun e he=>(hd e he).keep (sub_keep (Hp.Sub.refl _) hs)⟩
 refine ⟨⟨_,_,_,hA.row,rfl⟩,fun H w2 h0 hs p=>?_,fun w2 hs=>?_,?_,fun s hs=>?_⟩
 ·obtain ⟨h1,h2⟩:=up (h0.trans hs)
  exact get_calls h1 hne hB h2 p H
 ·obtain ⟨h1,h2⟩:=up hs
  exact entries_calls (hm.sub hs) h1 hne hB h2 few
 ·rw [sorted_len];exact few
 ·obtain ⟨e,he,rfl⟩:=List.mem_map.1 ((sortN_perm _).mem_iff.1 hs)
  exact hB.size e he
theorem isE_self (e:EntT):isE e.p e=true:=isE_iff.2 rfl
theorem find_name {l:List EntT} (hn:(l.map fun e=>e.p).Nodup) {e:EntT} (he:e∈l):l.find? (isE e.p)=some e:=by
 induction l with
 | nil=>cases he
 | cons a l ih=>
  rw [List.map_cons,List.nodup_cons] at hn
  rcases List.mem_cons.1 he with rfl | h
  ·rw [List.find?_cons,isE_self]
  ·have hna:isE e.p a=false:=by
    cases h2:isE e.p a
    ·rfl
    ·exact absurd (List.mem_map.2 ⟨e,h,(isE_iff.1 h2).symm⟩) hn.1
   rw [List.find?_cons,hna];exact ih hn.2 h
theorem lookZ_twin {E:List EntM} {xs:List EntT} {cm ys:EntT→List Int} (h:(E.map (KM cm)).Perm (xs.map (KE ys))) (hn:(E.map fun e=>e.1.p).Nodup) (q:ByteArray):lookZ cm (E.map (·.1)) q=lookZ ys xs q:=by
 have hnx:(xs.map fun e=>e.p).Nodup:=by
  have hp:=(h.map (fun k:Key=>k.1)).symm
  rw [List.map_map,List.map_map] at hp
  exact hp.nodup_iff.2 hn
 have hnE:((E.map (·.1)).map fun e=>e.p).Nodup:=by rw [List.map_map];exact hn
 unfold lookZ
 cases hf:xs.find? (isE q) with
 | some x=>
  have hx:=List.mem_of_find?_eq_some hf
  have hxq:x.p=q:=isE_iff.1 (List.find?_some hf)
  obtain ⟨e,he,hk⟩:=List.mem_map.1 (h.mem_iff.2 (List.mem_map.2 ⟨x,hx,rfl⟩))
  unfold KM KE at hk
  simp only [Prod.mk.injEq] at hk
  obtain ⟨k1,k2,k3,k4⟩:=hk
  have hfe:(E.map (·.1)).find? (isE q)=some e.1:=by
   have:=find_name hnE (List.mem_map.2 ⟨e,he,rfl⟩)
   rwa [k1,hxq] at this
  rw [hfe];simp only [k2,k3,k4]
 | none=>
  have hfe:(E.map (·.1)).find? (isE q)=none:=by
   rw [List.find?_eq_none]
   intro e1 he1 hq
   obtain ⟨e,he,rfl⟩:=List.mem_map.1 he1
   obtain ⟨x,hx,hk⟩:=List.mem_map.1 (h.mem_iff.1 (List.mem_map.2 ⟨e,he,rfl⟩))
   have h1:x.p=e.1.p:=(Prod.mk.inj hk).1
   exact absurd (isE_iff.2 (h1.trans (isE_iff.1 hq))) (List.find?_eq_none.1 hf x hx)
  rw [hfe]
structure TwoB (lo hi:Nat) (w:World) (D:List EntT) (ys:EntT→List Int) (b:Nat) (y:Value) (c:EntT→List Int) (l:List EntT) (L:List ByteArray) (xs:List EntT):Prop where
 book:BookH w b c l L
 look:∀ q,lookZ c l q=lookZ ys xs q
 names:∀ e,e∈L↔e∈xs.map (·.p)
 sub:∀ e∈xs,e∈D
 few:xs.length≤256
 row:(xs=[]∧y=.slice none 0 0)∨(xs≠[]∧∃ g k,lo≤g∧g<hi∧RowAt w y xs g k)
def NewIn (n:Nat) (w w2:World):Prop:=∀ k o,n≤k→w.heap[k]?=some o→w2.heap[k]?=some o
theorem two_at {W:World} {D:List EntT} {ys:EntT→List Int} (hX:PX D ys W) {e:Ending} {w':World} (h:RPl D ys W e w'):
  Below W.heap.size W w'∧∃ b y c l L xs,e=.returned (.tuple #[ptrB b,.agg #[.int .u64 0,y],.bool true])∧W.heap.size≤b∧b<w'.heap.size∧∀ w2,MX w2→NewIn W.heap.size w' w2→TwoB W.heap.size w'.heap.size w2 D ys b y c l L xs:=by
 obtain ⟨hB,b,v,he,hb,h⟩:=h
 refine ⟨hB,?_⟩
 rcases h with ⟨hr,rfl⟩ | ⟨m,E,cl,xs,y,hm,hA,rfl,hs,hI,hby,hsub,hne⟩
 ·exact ⟨b,.slice none 0 0,ys,[],[],[],he,hb,(Array.getElem?_eq_some_iff.1 hr).1,fun w2 _ hn=>⟨bookH_nil (hn _ _ hb hr),fun q=>rfl,fun e=>Iff.rfl,fun e he=>(nomatch he),Nat.zero_le _,.inl ⟨rfl,rfl⟩⟩⟩
 ·have hlen:E.length=xs.length:=hI.len
  obtain ⟨g,k,rest,hy,hg,hnk,hh,hsz⟩:=hs
  refine ⟨b,y,contH w'.hp,E.map (·.1),sortN (E.map fun e=>e.1.p),xs,he,hb,(Array.getElem?_eq_some_iff.1 hA.row).1,fun w2 hm2 hn=>?_⟩
  have hd:∀ e∈E,Dat w2 e.1.a e.1.l (contH w'.hp e.1):=fun e he=>by
   obtain ⟨zs,hz,hnew⟩:=hby e he
   rw [hz.cont]
   have hz2:BytesAt w2.hp e.1 zs:=by
    rcases hz with h | ⟨b3,r3,h1,h2,h3⟩
    ·exact .inl h
    ·exact .inr ⟨b3,r3,h1,hn _ _ (hnew _ h1) h2,h3⟩
   refine hz2.dat ?_
   obtain ⟨x,hx,hk⟩:=List.mem_map.1 (hI.twin.mem_iff.1 (List.mem_map.2 ⟨e,he,rfl⟩))
   have h1:ys x=contH w'.hp e.1:=(Prod.mk.inj (Prod.mk.inj (Prod.mk.inj hk).2).2).2
   rw [hz.cont] at h1
   have h2:=hX.2 x (hsub x hx)
   rw [← h1,h2.1];exact h2.2.1
  have hA2:BookAt w2 b m 0 E cl:=⟨hn _ _ hb hA.row,hn _ _ hm hA.map⟩
  refine ⟨bookH_map hm2 hA2 hI.ok hd (by have:=hI.few;omega),lookZ_twin hI.twin hI.ok.names,fun e=>?_,hsub,hI.few,.inr ⟨hne,g,k,hg,(Array.getElem?_eq_some_iff.1 hh).1,rest,hy,hnk,hn _ _ hg hh,hsz⟩⟩
  rw [(sortN_perm _).mem_iff]
  have hp:=hI.twin.map (fun k:Key=>k.1)
  rw [List.map_map,List.map_map] at hp
  exact hp.mem_iff
theorem dif_one {D:List EntT} {ys c1 c2:EntT→List Int} {l1 l2 xs1 xs2:List EntT} (hy:∀ x∈D,x.a=none→ys x=[]) (h1:∀ q,lookZ c1 l1 q=lookZ ys xs1 q) (h2:∀ q,lookZ c2 l2 q=lookZ ys xs2 q) (s1:∀ e∈xs1,e∈D) (s2:∀ e∈xs2,e∈D) (q:ByteArray):
  diffZ (lookZ c1 l1 q) (lookZ c2 l2 q)=difR ys xs1 xs2 q:=by
 have key:∀ xs:List EntT,(∀ e∈xs,e∈D)→lookZ ys xs q=((findE q xs).v,(findE q xs).k,ysN ys (findE q xs))∧(findE q xs).p=q:=fun xs hs=>by
  unfold lookZ findE
  cases hf:xs.find? (isE q) with
  | none=>exact ⟨rfl,rfl⟩
  | some x=>
   have hx:=hs x (List.mem_of_find?_eq_some hf)
   refine ⟨?_,isE_iff.1 (List.find?_some hf)⟩
   show (x.v,x.k,ys x)=(x.v,x.k,ysN ys x)
   unfold ysN
   cases ha:x.a with
   | none=>rw [hy x hx ha];rfl
   | some b=>rfl
 obtain ⟨k1,p1⟩:=key xs1 s1
 obtain ⟨k2,p2⟩:=key xs2 s2
 rw [h1,h2,k1,k2,← same_diff p1 p2];rfl
noncomputable def entAr (l m:List SV) (n c d:Nat) (k:Int):SM:=(enterS EN0 8 [.sl 0 0 n (some c),.v (.int .i64 k),.sl 1 0 n (some d)] (memOf 6 2 0 [lkE l,lkE m])).getD noSM
noncomputable def todoAr:List SI:=todoL EN0 2 60 (entAr [] [] 0 0 0 0) [(1000,.b true)]
noncomputable def hdAr (n c d:Nat) (k i:Int):SF:={ fn:=8,tm:=tmOf 35 6 ([.sl 0 0 n (some c),.v (.int .i64 k),.sl 1 0 n (some d)]++List.replicate 11 .junk++[.sl 0 0 n (some c),.v (.int .i64 n),.v (.int .i64 i)]++List.replicate 18 .junk),todo:=todoAr,defers:=[],ret:=false,kind:=.normal,ro:=none }
theorem ar0 (l m:List SV) (n c d:Nat) (k:Int):reach EN0 2 60 (entAr l m n c d k) [(1000,.b true),(0,.b false)] [(0,0),(1,1)] [0,1] (hdAr n c d k 0) 6 [lkE l,lkE m]=[
 (0:Nat)=(0:Nat)∧n=n∧some c=some c,
 Value.int IntKind.i64 k=Value.int IntKind.i64 k,
 (0:Nat)=(0:Nat)∧n=n∧some d=some d,
 (0:Nat)=(0:Nat)∧n=n∧some c=some c,
 Value.int IntKind.i64 (↑n:Int)=Value.int IntKind.i64 (↑n:Int),
 Value.int IntKind.i64 (0:Int)=Value.int IntKind.i64 (0:Int),
 l=l,
 l.all closedSV=true,
 m=m,
 m.all closedSV=true,
 (!(↑n:Int)==(↑n:Int))=false]:=by kernel_rfl
theorem ar1_3 (l m : List SV) (n c d : Nat) (i i' : Int) (q : ByteArray) : reach EN0 2 100 (SM.at (hdAr n c d 3 i) 6 [lkE l, lkE m]) (ff [0] true ++ [(2, .cells [.v (.int .i64 3), .v (.string q)]), (10, .cells [.v (.string q)]), (13, .b false)]) [(0, 0), (1, 1)] [0, 1] (hdAr n c d 3 i') 6 [lkE l, lkE m] = [
  (0 : Nat) = (0 : Nat) ∧ n = n ∧ some c = some c,
  Value.int IntKind.i64 (3 : Int) = Value.int IntKind.i64 (3 : Int),
  (0 : Nat) = (0 : Nat) ∧ n = n ∧ some d = some d,
  (0 : Nat) = (0 : Nat) ∧ n = n ∧ some c = some c,
  Value.int IntKind.i64 (↑n : Int) = Value.int IntKind.i64 (↑n : Int),
  Value.int IntKind.i64 (IntKind.i64.wrap (i + (1 : Int))) = Value.int IntKind.i64 i',
  l = l,
  l.all closedSV = true,
  m = m,
  m.all closedSV = true,
  (!q.toList == q.toList) = false,
  m[(0 : Nat) + i.toNat * (1 : Nat)]? = some (SV.v (Value.string q)),
  inRange i n = true,
  List.take (2 : Nat) (List.drop ((0 : Nat) + i.toNat * (2 : Nat)) l) =
   [SV.v (Value.int IntKind.i64 (3 : Int)), SV.v (Value.string q)] ∧
   [SV.v (Value.int IntKind.i64 (3 : Int)), SV.v (Value.string q)].length = (2 : Nat),
  inRange i n = true,
  decide (i < (↑n : Int)) = true] := by kernel_rfl
theorem ar1_5 (l m : List SV) (n c d : Nat) (i i' : Int) (q : ByteArray) : reach EN0 2 100 (SM.at (hdAr n c d 5 i) 6 [lkE l, lkE m]) (ff [0] true ++ [(2, .cells [.v (.int .i64 5), .v (.string q)]), (10, .cells [.v (.string q)]), (13, .b false)]) [(0, 0), (1, 1)] [0, 1] (hdAr n c d 5 i') 6 [lkE l, lkE m] = [
  (0 : Nat) = (0 : Nat) ∧ n = n ∧ some c = some c,
  Value.int IntKind.i64 (5 : Int) = Value.int IntKind.i64 (5 : Int),
  (0 : Nat) = (0 : Nat) ∧ n = n ∧ some d = some d,
  (0 : Nat) = (0 : Nat) ∧ n = n ∧ some c = some c,
  Value.int IntKind.i64 (↑n : Int) = Value.int IntKind.i64 (↑n : Int),
  Value.int IntKind.i64 (IntKind.i64.wrap (i + (1 : Int))) = Value.int IntKind.i64 i',
  l = l,
  l.all closedSV = true,
  m = m,
  m.all closedSV = true,
  (!q.toList == q.toList) = false,
  m[(0 : Nat) + i.toNat * (1 : Nat)]? = some (SV.v (Value.string q)),
  inRange i n = true,
  List.take (2 : Nat) (List.drop ((0 : Nat) + i.toNat * (2 : Nat)) l) =
   [SV.v (Value.int IntKind.i64 (5 : Int)), SV.v (Value.string q)] ∧
   [SV.v (Value.int IntKind.i64 (5 : Int)), SV.v (Value.string q)].length = (2 : Nat),
  inRange i n = true,
  decide (i < (↑n : Int)) = true] := by kernel_rfl
theorem ar2 (l m:List SV) (n c d:Nat) (k i:Int) (v:Value):endsV EN0 8 60 (SM.at (hdAr n c d k i) 6 [lkE l,lkE m]) (ff [0] false) v=[
 Value.bool true=v,
 decide (i<(↑n:Int))=false]:=by kernel_rfl
theorem ar3 (k:Int) (v:Value):endsV EN0 8 60 (entE EN0 8 [.v (.slice none 0 0),.v (.int .i64 k),.v (.slice none 0 0)]) [(1000,.b true)] v=[
 Value.bool true=v]:=by kernel_rfl
def findCk (k:Int) (q:ByteArray):List SV:=[.v (.int .i64 k),.v (.string q)]
def findVk (k:Int) (l:List ByteArray):List Value:=l.flatMap fun q=>[.int .i64 k,.string q]
def findSk (k:Int) (l:List ByteArray):List SV:=l.flatMap (findCk k)
theorem findSk_closed (k:Int) (l:List ByteArray):(findSk k l).all closedSV=true:=by
 rw [List.all_eq_true];intro x hx
 obtain ⟨r,_,hx⟩:=List.mem_flatMap.1 hx
 simp only [findCk,List.mem_cons,List.not_mem_nil,or_false] at hx
 rcases hx with rfl | rfl <;> rfl
theorem findSk_map (k:Int):∀ l:List ByteArray,(findVk k l).map SV.v=findSk k l
 | []=>rfl
 | q::l=>by
  have e:findSk k (q::l)=findCk k q++findSk k l:=by simp [findSk]
  have e2:findVk k (q::l)=[.int .i64 k,.string q]++findVk k l:=by simp [findVk]
  rw [e,e2,List.map_append,findSk_map k l];rfl
theorem findSk_at {k:Int} {L:List ByteArray} {i:Nat} {q:ByteArray} (h:L[i]?=some q):List.take 2 (List.drop (0+(i:Int).toNat*2) (findSk k L))=findCk k q:=by
 rw [Int.toNat_natCast,Nat.zero_add];exact flatMap_at (g:=findCk k) (m:=2) (fun _=>rfl) h
section
variable {w0:World} {cs0:List Frame} {L:List ByteArray} {M:Own} {ν:Val} {c d:Nat}
theorem loopAr3 (hM:∀ z,¬ M z) (hν:∀ i b,ν i=some b→i=0∨i=1) (few:L.length≤100000):∀ (j i:Nat),i+j=L.length→
  Goes EN0 M w0 cs0 8 (fun e w'=>Below w0.heap.size w0 w'∧e=.returned (.bool true)) ν (SM.at (hdAr L.length c d 3 (i:Int)) 6 [lkE (findSk 3 L),lkE (strs L)])
 | 0,i,hj=>by
  refine Goes.endsV KN0 (n:=60) (o:=ff [0] false) (v:=.bool true) ?_ fun ν' M1 w1 s' w' _ hB hr=>⟨below_of hM hB hr,rfl⟩
  rw [ar2]
  simp only [Owed,and_self,and_true,true_and]
  exact decide_eq_false (by omega)
 | j+1,i,hj=>by
  have hi:i<L.length:=by omega
  have hq:L[i]?=some L[i]:=List.getElem?_eq_getElem hi
  have nx:=loopAr3 hM hν few j (i+1) (by omega)
  have hqq:(L[i].toList==L[i].toList)=true:=by simp
  refine Goes.reach KN0 (k:=2) (n:=100) (o:=ff [0] true++[(2,.cells [.v (.int .i64 3),.v (.string L[i])]),(10,.cells [.v (.string L[i])]),(13,.b false)]) (ren:=[(0,0),(1,1)]) (eqs:=[0,1]) ?_ (by kernel_rfl) (fun i b h=>by rcases hν i b h with h | h <;> rw [h] <;> rfl) nx
  rw [ar1_3]
  simp only [Owed,wrap_succ (k:=i) (by omega),in_range hi,decide_eq_true (show (i:Int)<(L.length:Int) by omega),findSk_at hq,strs_at hq,findSk_closed,strs_closed,and_self,and_true,true_and]
  repeat' apply And.intro
  all_goals first | rfl | omega | exact ba_beq _ | exact hqq | (simp;done) | skip
theorem loopAr5 (hM:∀ z,¬ M z) (hν:∀ i b,ν i=some b→i=0∨i=1) (few:L.length≤100000):∀ (j i:Nat),i+j=L.length→
  Goes EN0 M w0 cs0 8 (fun e w'=>Below w0.heap.size w0 w'∧e=.returned (.bool true)) ν (SM.at (hdAr L.length c d 5 (i:Int)) 6 [lkE (findSk 5 L),lkE (strs L)])
 | 0,i,hj=>by
  refine Goes.endsV KN0 (n:=60) (o:=ff [0] false) (v:=.bool true) ?_ fun ν' M1 w1 s' w' _ hB hr=>⟨below_of hM hB hr,rfl⟩
  rw [ar2]
  simp only [Owed,and_self,and_true,true_and]
  exact decide_eq_false (by omega)
 | j+1,i,hj=>by
  have hi:i<L.length:=by omega
  have hq:L[i]?=some L[i]:=List.getElem?_eq_getElem hi
  have nx:=loopAr5 hM hν few j (i+1) (by omega)
  have hqq:(L[i].toList==L[i].toList)=true:=by simp
  refine Goes.reach KN0 (k:=2) (n:=100) (o:=ff [0] true++[(2,.cells [.v (.int .i64 5),.v (.string L[i])]),(10,.cells [.v (.string L[i])]),(13,.b false)]) (ren:=[(0,0),(1,1)]) (eqs:=[0,1]) ?_ (by kernel_rfl) (fun i b h=>by rcases hν i b h with h | h <;> rw [h] <;> rfl) nx
  rw [ar1_5]
  simp only [Owed,wrap_succ (k:=i) (by omega),in_range hi,decide_eq_true (show (i:Int)<(L.length:Int) by omega),findSk_at hq,strs_at hq,findSk_closed,strs_closed,and_self,and_true,true_and]
  repeat' apply And.intro
  all_goals first | rfl | omega | exact ba_beq _ | exact hqq | (simp;done) | skip
end
theorem are3_calls {w:World} {g1 g2 c d:Nat} {L:List ByteArray} {r1 r2:List Value} {e1 e2:TypeId} {f1 f2:Nat × Nat} (hn:g1≠g2) (h1:w.heap[g1]?=some (.cells (findVk 3 L++r1).toArray e1 f1)) (h2:w.heap[g2]?=some (.cells (L.map Value.string++r2).toArray e2 f2)) (hc:L.length≤c) (hd:L.length≤d) (few:L.length≤100000):
  Calls Tryz.prog 8 #[.slice (some ⟨g1,0,none⟩) L.length c,.int .i64 3,.slice (some ⟨g2,0,none⟩) L.length d] w fun e w'=>Below w.heap.size w w'∧e=.returned (.bool true):=by
 have ho:∀ (j:Nat) (o':SO) (b' c':Nat),[SO.look (findSk 3 L),SO.look (strs L)][j]?=some o'→[(g1,0),(g2,0)][j]?=some (b',c')→∃ r,w.heap[b']?=some r∧OR (layVal [(g1,0),(g2,0)]) j o' r:=by
  intro j o' b' c' q1 q2
  match j with
  | 0=>
   simp only [List.getElem?_cons_zero,Option.some.injEq] at q1 q2
   subst q1
   cases q2
   refine ⟨_,h1,findVk 3 L,_,_,_,rfl,by rw [← findSk_map];exact VRL.lits _ _,fun k y h=>?_⟩
   rw [List.getElem?_toArray,List.getElem?_append_left (List.getElem?_eq_some_iff.1 h).1];exact h
  | 1=>
   simp only [List.getElem?_cons_succ,List.getElem?_cons_zero,Option.some.injEq] at q1 q2
   subst q1
   cases q2
   refine ⟨_,h2,L.map Value.string,_,_,_,rfl,VRL.lits _ _,fun k y h=>?_⟩
   rw [List.getElem?_toArray,List.getElem?_append_left (List.getElem?_eq_some_iff.1 h).1];exact h
  | j+2=>simp at q1
 refine calls_readR (E:=EN0) rfl (d:=6) (l:=[(g1,0),(g2,0)]) (os:=[.look (findSk 3 L),.look (strs L)]) rfl (by simp) (by simpa using hn) ho rfl (args:=[.sl 0 0 L.length (some c),.v (.int .i64 3),.sl 1 0 L.length (some d)]) (a:=[.slice (some ⟨g1,0,none⟩) L.length c,.int .i64 3,.slice (some ⟨g2,0,none⟩) L.length d]) (S0:=entAr (findSk 3 L) (strs L) L.length c d 3) (by kernel_rfl) (VRL.cons (VR.sl_iff.2 ⟨(g1,0),rfl,hc,rfl⟩) (VRL.cons (VR.v_iff.2 rfl) (VRL.cons (VR.sl_iff.2 ⟨(g2,0),rfl,hd,rfl⟩) VRL.nil))) fun cs0=>?_
 have hν:∀ i c,layVal [(g1,0),(g2,0)] i=some c→i=0∨i=1:=fun i c h=>by
  match i with
  | 0=>exact .inl rfl
  | 1=>exact .inr rfl
  | i+2=>simp [layVal] at h
 have nx:=loopAr3 (cs0:=cs0) (w0:=w) (ν:=layVal [(g1,0),(g2,0)]) (M:=layOwn [(g1,0),(g2,0)] ([SO.look (findSk 3 L),SO.look (strs L)].map fun o=>(o,false))) (c:=c) (d:=d) (fun z=>layOwn_none (os:=[SO.look (findSk 3 L),SO.look (strs L)])) hν few L.length 0 (by omega)
 refine Goes.reach KN0 (k:=2) (n:=60) (o:=[(1000,.b true),(0,.b false)]) (ren:=[(0,0),(1,1)]) (eqs:=[0,1]) (F:=hdAr L.length c d 3 0) (d:=6) (l:=[lkE (findSk 3 L),lkE (strs L)]) ?_ (by kernel_rfl) (fun i b h=>by rcases hν i b h with h | h <;> rw [h] <;> rfl) nx
 rw [ar0]
 simp only [Owed,findSk_closed,strs_closed,and_self,and_true,true_and]
 repeat' apply And.intro
 all_goals first | rfl | (simp;done) | skip
theorem are5_calls {w:World} {g1 g2 c d:Nat} {L:List ByteArray} {r1 r2:List Value} {e1 e2:TypeId} {f1 f2:Nat × Nat} (hn:g1≠g2) (h1:w.heap[g1]?=some (.cells (findVk 5 L++r1).toArray e1 f1)) (h2:w.heap[g2]?=some (.cells (L.map Value.string++r2).toArray e2 f2)) (hc:L.length≤c) (hd:L.length≤d) (few:L.length≤100000):
  Calls Tryz.prog 8 #[.slice (some ⟨g1,0,none⟩) L.length c,.int .i64 5,.slice (some ⟨g2,0,none⟩) L.length d] w fun e w'=>Below w.heap.size w w'∧e=.returned (.bool true):=by
 have ho:∀ (j:Nat) (o':SO) (b' c':Nat),[SO.look (findSk 5 L),SO.look (strs L)][j]?=some o'→[(g1,0),(g2,0)][j]?=some (b',c')→∃ r,w.heap[b']?=some r∧OR (layVal [(g1,0),(g2,0)]) j o' r:=by
  intro j o' b' c' q1 q2
  match j with
  | 0=>
   simp only [List.getElem?_cons_zero,Option.some.injEq] at q1 q2
   subst q1
   cases q2
   refine ⟨_,h1,findVk 5 L,_,_,_,rfl,by rw [← findSk_map];exact VRL.lits _ _,fun k y h=>?_⟩
   rw [List.getElem?_toArray,List.getElem?_append_left (List.getElem?_eq_some_iff.1 h).1];exact h
  | 1=>
   simp only [List.getElem?_cons_succ,List.getElem?_cons_zero,Option.some.injEq] at q1 q2
   subst q1
   cases q2
   refine ⟨_,h2,L.map Value.string,_,_,_,rfl,VRL.lits _ _,fun k y h=>?_⟩
   rw [List.getElem?_toArray,List.getElem?_append_left (List.getElem?_eq_some_iff.1 h).1];exact h
  | j+2=>simp at q1
 refine calls_readR (E:=EN0) rfl (d:=6) (l:=[(g1,0),(g2,0)]) (os:=[.look (findSk 5 L),.look (strs L)]) rfl (by simp) (by simpa using hn) ho rfl (args:=[.sl 0 0 L.length (some c),.v (.int .i64 5),.sl 1 0 L.length (some d)]) (a:=[.slice (some ⟨g1,0,none⟩) L.length c,.int .i64 5,.slice (some ⟨g2,0,none⟩) L.length d]) (S0:=entAr (findSk 5 L) (strs L) L.length c d 5) (by kernel_rfl) (VRL.cons (VR.sl_iff.2 ⟨(g1,0),rfl,hc,rfl⟩) (VRL.cons (VR.v_iff.2 rfl) (VRL.cons (VR.sl_iff.2 ⟨(g2,0),rfl,hd,rfl⟩) VRL.nil))) fun cs0=>?_
 have hν:∀ i c,layVal [(g1,0),(g2,0)] i=some c→i=0∨i=1:=fun i c h=>by
  match i with
  | 0=>exact .inl rfl
  | 1=>exact .inr rfl
  | i+2=>simp [layVal] at h
 have nx:=loopAr5 (cs0:=cs0) (w0:=w) (ν:=layVal [(g1,0),(g2,0)]) (M:=layOwn [(g1,0),(g2,0)] ([SO.look (findSk 5 L),SO.look (strs L)].map fun o=>(o,false))) (c:=c) (d:=d) (fun z=>layOwn_none (os:=[SO.look (findSk 5 L),SO.look (strs L)])) hν few L.length 0 (by omega)
 refine Goes.reach KN0 (k:=2) (n:=60) (o:=[(1000,.b true),(0,.b false)]) (ren:=[(0,0),(1,1)]) (eqs:=[0,1]) (F:=hdAr L.length c d 5 0) (d:=6) (l:=[lkE (findSk 5 L),lkE (strs L)]) ?_ (by kernel_rfl) (fun i b h=>by rcases hν i b h with h | h <;> rw [h] <;> rfl) nx
 rw [ar0]
 simp only [Owed,findSk_closed,strs_closed,and_self,and_true,true_and]
 repeat' apply And.intro
 all_goals first | rfl | (simp;done) | skip
theorem are_nil {w:World} (k:Int):Calls Tryz.prog 8 #[.slice none 0 0,.int .i64 k,.slice none 0 0] w fun e w'=>Below w.heap.size w w'∧e=.returned (.bool true):=by
 refine calls_endsV (E:=EN0) (args:=[.v (.slice none 0 0),.v (.int .i64 k),.v (.slice none 0 0)]) (a:=[.slice none 0 0,.int .i64 k,.slice none 0 0]) (n:=60) (o:=[(1000,.b true)]) rfl rfl KN0 (by kernel_rfl) (VRL.cons (VR.v_iff.2 rfl) (VRL.cons (VR.v_iff.2 rfl) (VRL.cons (VR.v_iff.2 rfl) VRL.nil))) ⟨?_⟩
 rw [ar3]
 simp only [Owed,and_self,and_true,true_and]
structure OutT where
 p:ByteArray
 k:Int
 e:Int
def oC (x:OutT):List SV:=[.v (.string x.p),.v (.int .i64 x.k),.v (.int .i64 x.e)]
def oV (x:OutT):List Value:=[.string x.p,.int .i64 x.k,.int .i64 x.e]
theorem oC_len (e:OutT):(oC e).length=3:=rfl
theorem oC_closed (e:OutT):(oC e).all closedSV=true:=rfl
noncomputable def ELo:Env:=EP [] []
noncomputable def entLo (l:List SV) (off n c:Nat):SM:=(enterS ELo 5 [.sl 0 off n (some c)] (memOf 6 1 0 [lkE l])).getD noSM
noncomputable def todoLo:List SI:=todoL ELo 2 60 (entLo [] 0 0 0) [(1000,.b true)]
noncomputable def hdLo (off n c:Nat) (z i:Int):SF:={ fn:=5,tm:=tmOf 25 5 ([.sl 0 off n (some c),.junk,.junk,.v (.int .i64 z),.junk,.junk,.sl 0 off n (some c),.v (.int .i64 n),.v (.int .i64 i)]++List.replicate 16 .junk),todo:=todoLo,defers:=[],ret:=false,kind:=.normal,ro:=none }
theorem lo0 (l:List SV) (off n c:Nat):reach ELo 2 60 (entLo l off n c) [(1000,.b true)] [(0,0)] [0] (hdLo off n c 0 0) 6 [lkE l]=[
 off=off∧n=n∧some c=some c,
 Value.int IntKind.i64 (0:Int)=Value.int IntKind.i64 (0:Int),
 off=off∧n=n∧some c=some c,
 Value.int IntKind.i64 (↑n:Int)=Value.int IntKind.i64 (↑n:Int),
 Value.int IntKind.i64 (0:Int)=Value.int IntKind.i64 (0:Int),
 l=l,
 l.all closedSV=true]:=by kernel_rfl
theorem lo1 (l:List SV) (off n c:Nat) (x:OutT) (z i z' i':Int):reach ELo 2 60 (SM.at (hdLo off n c z i) 6 [lkE l]) (ff [0] true++[(2,.cells (oC x))]) [(0,0)] [0] (hdLo off n c z' i') 6 [lkE l]=[
 off=off∧n=n∧some c=some c,
 Value.int IntKind.i64 (IntKind.i64.wrap (z+(↑x.1.size:Int)))=Value.int IntKind.i64 z',
 off=off∧n=n∧some c=some c,
 Value.int IntKind.i64 (↑n:Int)=Value.int IntKind.i64 (↑n:Int),
 Value.int IntKind.i64 (IntKind.i64.wrap (i+(1:Int)))=Value.int IntKind.i64 i',
 l=l,
 l.all closedSV=true,
 List.take (3:Nat) (List.drop (off+i.toNat*(3:Nat)) l)=oC x∧(oC x).length=(3:Nat),
 inRange i n=true,
 decide (i<(↑n:Int))=true]:=by kernel_rfl
theorem lo2 (l:List SV) (off n c:Nat) (z i:Int) (b:Bool):endsV ELo 5 60 (SM.at (hdLo off n c z i) 6 [lkE l]) (ff [0] false++ff [1,2,3,4,5] true) (.bool b)=[
 Value.bool (decide (z≤(5000:Int)))=Value.bool b,
 decide ((↑n:Int)≤(100:Int))=true,
 decide ((↑n:Int)≤(100:Int))=true,
 decide ((↑n:Int)≤(100:Int))=true,
 decide (i<(↑n:Int))=false]:=by kernel_rfl
theorem lo3 (l:List SV) (off n c:Nat) (z i:Int) (b:Bool):endsV ELo 5 60 (SM.at (hdLo off n c z i) 6 [lkE l]) (ff [0] false++ff [1,2,3,4,5] false) (.bool b)=[
 Value.bool false=Value.bool b,
 decide ((↑n:Int)≤(100:Int))=false,
 decide ((↑n:Int)≤(100:Int))=false,
 decide ((↑n:Int)≤(100:Int))=false,
 decide (i<(↑n:Int))=false]:=by kernel_rfl
theorem lo4 (a:Option Addr) (c:Nat) (b:Bool):endsV ELo 5 60 (entE ELo 5 [.v (.slice a 0 c)]) (ff [1000] true) (.bool b)=[
 Value.bool true=Value.bool b]:=by kernel_rfl
def sumO (z:Int) (xs:List OutT):Int:=xs.foldl (fun n e=>IntKind.i64.wrap (n+(e.p.size:Int))) z
def lightO (xs:List OutT):Bool:=decide ((xs.length:Int)≤100)&&decide (sumO 0 xs≤5000)
theorem sumO_snoc (z:Int) (xs:List OutT) (e:OutT):sumO z (xs++[e])=IntKind.i64.wrap (sumO z xs+(e.p.size:Int)):=by
 unfold sumO;rw [List.foldl_append];rfl
theorem KLo {M:Own} {w0:World}:Facts ELo M w0:=factsP0 fun r h=>by cases h
section
variable {M:Own} {w0:World} {cs0:List Frame} {R:Ending→World→Prop} {ν:Val} {xs:List OutT} {off c:Nat}
theorem loopLo (hν:∀ i b,ν i=some b→i=0) (hl:xs.length≤9223372036854775807) (hM:∀ b,¬ M b) (hR:∀ w',Below w0.heap.size w0 w'→R (.returned (.bool (lightO xs))) w'):
  ∀ (j k:Nat),k+j=xs.length→Goes ELo M w0 cs0 5 R ν (SM.at (hdLo off xs.length c (sumO 0 (xs.take k)) k) 6 [lkE (rowsAt oC off xs)])
 | 0,k,hk=>by
  have hk:k=xs.length:=by omega
  by_cases h:(xs.length:Int)≤100
  ·refine Goes.endsV KLo (n:=60) (o:=ff [0] false++ff [1,2,3,4,5] true) (v:=.bool (lightO xs)) ?_ fun ν' M1 w1 s' w' _ hB hr=>hR _ (below_of hM hB hr)
   rw [lo2]
   simp only [Owed,h,decide_true,hk,Int.lt_irrefl,decide_false,true_and,and_true]
   unfold lightO
   first | (rw [List.take_length];simp [h];done) | (simp [h];done)
  ·refine Goes.endsV KLo (n:=60) (o:=ff [0] false++ff [1,2,3,4,5] false) (v:=.bool (lightO xs)) ?_ fun ν' M1 w1 s' w' _ hB hr=>hR _ (below_of hM hB hr)
   rw [lo3]
   simp only [Owed,h,decide_true,hk,Int.lt_irrefl,decide_false,true_and,and_true]
   unfold lightO
   first | (rw [List.take_length];simp [h];done) | (simp [h];done)
 | j+1,k,hk=>by
  have hi:k<xs.length:=by omega
  have hxk:xs[k]?=some xs[k]:=List.getElem?_eq_getElem hi
  have t1:decide ((k:Int)<(xs.length:Int))=true:=decide_eq_true (by omega)
  have r1:=in_range hi
  have ws:IntKind.i64.wrap ((k:Int)+1)=((k+1:Nat):Int):=by rw [wi (by omega)];omega
  have ra:=rowsAt_at (off:=off) oC_len hxk
  have hcl:(rowsAt oC off xs).all closedSV=true:=rowsAt_closed oC_closed
  have nx:=loopLo hν hl hM hR j (k+1) (by omega)
  rw [List.take_succ_eq_append_getElem hi,sumO_snoc] at nx
  refine Goes.reach KLo (k:=2) (n:=60) (o:=(ff [0] true++[(2,.cells (oC xs[k]))])) (ren:=[(0,0)]) (eqs:=[0]) ?_ (by kernel_rfl) (fun i b h=>by rw [hν i b h];rfl) nx
  rw [lo1]
  simp only [Owed,Int.toNat_natCast,t1,r1,ws,ra,hcl,oC_len,and_self,and_true,true_and]
  try (repeat' apply And.intro)
  all_goals first | rfl | exact ws.symm | exact ws | skip
end
inductive OutsIn (W:World) (a:Option Addr) (l c:Nat) (D:List OutT):Prop where
 | none (hl:l=0) (hD:D=[])
 | some (b off:Nat) (cs:Array Value) (e:TypeId) (fz:Nat × Nat) (ha:a=.some ⟨b,off,.none⟩) (hl:D.length=l) (hlc:l≤c) (hh:W.heap[b]?=.some (.cells cs e fz)) (hoff:off≤cs.size) (hc:∀ (k:Nat) (v:Value),(D.flatMap oV)[k]?=.some v→cs[off+k]?=.some v)
theorem OutsIn.keep {W w:World} {a:Option Addr} {l c:Nat} {D:List OutT} (h:OutsIn W a l c D) (hk:∀ k,k<W.heap.size→w.heap[k]?=W.heap[k]?):OutsIn w a l c D:=by
 rcases h with ⟨hl,hD⟩ | ⟨b,off,cs,e,fz,ha,hl,hlc,hh,hoff,hc⟩
 ·exact .none hl hD
 ·exact .some b off cs e fz ha hl hlc ((hk b (Array.getElem?_eq_some_iff.1 hh).1).trans hh) hoff hc
section
variable {H:Type} {enc:TypeId × Value→H} {W:World} {base:Nat} {spare:Nat→Bool} {held:Bool}
theorem out_form {vs:List Value} {n:Nat} {y:DataW H × List MemPlace} (h:DataW.trod enc Tryz.prog W base spare held n 49 vs=some y) (hw:∀ q∈y.1.weights Tryz.prog 49,q≤reachBytes):∃ r:{ x:OutT // x.p.size≤reachBytes },vs=oV r.1:=by
 have hs:Tryz.prog.underlying 49=some (.struct (structFields Tryz.prog 49)):=by kernel_rfl
 obtain ⟨xs,n',_,_,hl,_,_⟩:=DataW.trod_struct hs h
 have hl:vs.length=3:=hl.trans (by kernel_rfl)
 obtain ⟨n0,y0,h0,w0⟩:=trod_part (i:=0) (o:=0) (ft:=9) (k:=1) h hs (by kernel_rfl) (by kernel_rfl) (by kernel_rfl) (by kernel_rfl)
 obtain ⟨n1,y1,h1,w1⟩:=trod_part (i:=1) (o:=1) (ft:=3) (k:=1) h hs (by kernel_rfl) (by kernel_rfl) (by kernel_rfl) (by kernel_rfl)
 obtain ⟨n2,y2,h2,w2⟩:=trod_part (i:=2) (o:=2) (ft:=47) (k:=1) h hs (by kernel_rfl) (by kernel_rfl) (by kernel_rfl) (by kernel_rfl)
 match vs,hl with
 | [v0,v1,v2],_=>
  obtain ⟨s,hs0,hx0,_⟩:=DataW.trod_string Tryz.underlying9 h0
  obtain ⟨z1,hz1,_,wf1⟩:=DataW.trod_int Tryz.underlying3 h1
  obtain ⟨z2,hz2,_,_⟩:=DataW.trod_int (show Tryz.prog.underlying 47=some (.int .i64) by kernel_rfl) h2
  cases hs0;cases hz1;cases hz2
  refine ⟨⟨⟨s,z1,z2⟩,?_⟩,rfl⟩
  have:=hw s.data.toList.length (w0 _ (by rw [hx0];unfold DataW.weights;exact List.mem_singleton.2 rfl))
  simpa using this
theorem outs_in {a:Option Addr} {l c:Nat} {d:DataW H} {p:List MemPlace} (h:DataW.Trod enc Tryz.prog W base spare held 23 (.slice a l c) d p) (hw:∀ q∈d.weights Tryz.prog 23,q≤reachBytes):
  ∃ D:List OutT,OutsIn W a l c D∧(∀ x∈D,x.p.size≤reachBytes)∧l≤9223372036854775807:=by
 obtain ⟨n,hn⟩:=h
 have hr:=rows_wt (h:=fun r:{ x:OutT // x.p.size≤reachBytes }=>oV r.1) (C:=3) (by decide) (fun _=>rfl) (fun vs n y h hq=>out_form h fun q hq'=>hw q (hq q hq')) (show Tryz.prog.underlying 23=some (.slice 49) by kernel_rfl) (by kernel_rfl) hn
 obtain ⟨⟨hlc,hcm⟩,rfl | ⟨b,off,xs,cs,e,fz,rfl,rfl,hh,hoff,hc⟩⟩:=hr
 ·exact ⟨[],.none rfl rfl,fun x hx=>(nomatch hx),by omega⟩
 ·refine ⟨xs.map (·.1),.some b off cs e fz rfl (by simp) hlc hh hoff fun k v hk=>hc k v ?_,fun x hx=>?_,Nat.le_trans hlc (Nat.le_trans hcm (by decide))⟩
  ·rw [List.flatMap_map] at hk;exact hk
  ·obtain ⟨r,_,rfl⟩:=List.mem_map.1 hx
   exact r.2
end
theorem lightO_calls {W:World} {a:Option Addr} {l c:Nat} {D:List OutT} (h:OutsIn W a l c D) (hl:l≤9223372036854775807):Calls Tryz.prog 5 #[.slice a l c] W fun e w'=>Below W.heap.size W w'∧e=.returned (.bool (lightO D)):=by
 rcases h with ⟨rfl,rfl⟩ | ⟨b,off,cs,e,fz,rfl,rfl,hlc,hh,hoff,hc⟩
 ·refine calls_endsV (E:=ELo) (args:=[.v (.slice a 0 c)]) (a:=[.slice a 0 c]) (n:=60) (o:=ff [1000] true) rfl rfl KLo (by kernel_rfl) (VRL.cons (VR.v_iff.2 rfl) VRL.nil) ⟨?_⟩
  rw [lo4]
  simp only [Owed,and_self,and_true,true_and]
  rfl
 ·refine (calls_readR (E:=ELo) (R:=fun e w'=>Below W.heap.size W w'∧e=.returned (.bool (lightO D))) rfl (d:=6) (l:=[(b,0)]) (os:=[.look (rowsAt oC off D)]) rfl (by simp) (by simp) ?_ rfl (args:=[.sl 0 off D.length (some c)]) (a:=[.slice (some ⟨b,off,none⟩) D.length c]) (S0:=entLo (rowsAt oC off D) off D.length c) (by kernel_rfl) (VRL.cons (VR.sl_iff.2 ⟨(b,0),rfl,hlc,rfl⟩) VRL.nil) fun cs0=>?_)
  ·intro j o' b' c' h1 h2
   match j with
   | 0=>
    simp only [List.getElem?_cons_zero,Option.some.injEq] at h1 h2
    subst h1
    cases h2
    exact ⟨_,hh,rowsAt_look (h:=oV) (fun ν x=>VRL.lits ν (oV x)) hoff hc⟩
   | j+1=>simp at h1
  ·have hM:∀ z,¬ (layOwn [(b,0)] ([SO.look (rowsAt oC off D)].map fun o=>(o,false))) z:=fun z=>layOwn_none
   have hν:∀ i c,layVal [(b,0)] i=some c→i=0:=fun i c h=>lay1' h
   have hcl:(rowsAt oC off D).all closedSV=true:=rowsAt_closed oC_closed
   have nx:=loopLo (w0:=W) (cs0:=cs0) (R:=fun e w'=>Below W.heap.size W w'∧e=.returned (.bool (lightO D))) (c:=c) (off:=off) hν (by omega) hM (fun w' hB=>⟨hB,rfl⟩) D.length 0 (by omega)
   rw [List.take_zero,show sumO 0 []=0 from rfl] at nx
   refine Goes.reach KLo (k:=2) (n:=60) (o:=[(1000,.b true)]) (ren:=[(0,0)]) (eqs:=[0]) (F:=hdLo off D.length c 0 0) (d:=6) (l:=[lkE (rowsAt oC off D)]) ?_ (by kernel_rfl) (fun i b h=>by rw [hν i b h];rfl) nx
   rw [lo0]
   simp only [Owed,hcl,and_self,and_true,true_and]
def strayB (k e:Int):Bool:=(decide (k<1)||decide (k>6))||((decide (k=5)&&decide (e=0))||(decide (k<5)&&!decide (e=0)))
theorem strayW {w:World} (p:ByteArray) (k e:Int):Calls Tryz.prog 30 #[.agg #[.string p,.int .i64 k,.int .i64 e]] w fun r w'=>r=.returned (.bool (strayB k e))∧Below w.heap.size w w':=by
 by_cases h1:k<1
 ·have d1:decide (k<1)=true:=decide_eq_true h1
  go_enter Tryz.func30,Tryz.ntmps30
  go_wp2
  go_ret
  exact ⟨by unfold strayB;rw [d1];rfl,below1⟩
 ·have d1:decide (k<1)=false:=decide_eq_false h1
  by_cases h2:k>6
  ·have d2:decide (k>6)=true:=decide_eq_true h2
   go_enter Tryz.func30,Tryz.ntmps30
   go_wp2
   go_ret
   exact ⟨by unfold strayB;rw [d1,d2];rfl,below1⟩
  ·have d2:decide (k>6)=false:=decide_eq_false h2
   by_cases h3:k=5
   ·subst h3
    go_enter Tryz.func30,Tryz.ntmps30
    go_wp2
    go_ret
    refine ⟨?_,below1⟩
    by_cases he:e=0 <;> simp [strayB,he]
   ·by_cases h4:k=6
    ·subst h4
     go_enter Tryz.func30,Tryz.ntmps30
     go_wp2
     go_ret
     exact ⟨by simp [strayB],below1⟩
    ·have h5:k<5:=by omega
     have d3:(k==5)=false:=by simpa using h3
     have d4:(k==6)=false:=by simpa using h4
     go_enter Tryz.func30,Tryz.ntmps30
     go_wp2
     go_ret
     refine ⟨?_,below1⟩
     by_cases he:e=0 <;> simp [strayB,he,h1,h2,h3,h5] <;> omega
def strayPS:PS:=fun args=>match args with | [.agg x]=>(match x.toList with | [.string p,.int .i64 k,.int .i64 e]=>some (.bool (strayB k e),True) | _=>none) | _=>none
theorem stray_ok:PureOK Tryz.prog (fun _=>True) (30,strayPS):=by
 refine .mk ⟨_,Tryz.func30,by kernel_rfl,by kernel_rfl⟩ fun args v p h hp w hX=>?_
 dsimp only [strayPS] at h
 split at h
 ·rename_i x
  split at h
  ·rename_i q k e hx
   cases h
   obtain ⟨xs⟩:=x
   have hx:xs=_:=hx
   subst hx
   exact (strayW q k e).mono fun e w' ⟨h1,h2⟩=>⟨h2,h1⟩
  ·cases h
 ·cases h
noncomputable def EOu:Env:=EP [(30,strayPS)] []
theorem KOu {M:Own} {w0:World}:Facts EOu M w0:=factsP0 fun r h=>by rw [List.mem_singleton.1 h];exact stray_ok
noncomputable def entOu (l:List SV) (off n c:Nat):SM:=(enterS EOu 11 [.sl 0 off n (some c)] (memOf 6 1 0 [lkE l])).getD noSM
noncomputable def todoOu:List SI:=todoL EOu 2 60 (entOu [] 0 0 0) [(1000,.b true)]
noncomputable def hdOu (off n c:Nat) (x:SV) (i:Int):SF:={ fn:=11,tm:=tmOf 21 5 ([.junk,.junk,x,.junk,.junk,.sl 0 off n (some c),.v (.int .i64 n),.v (.int .i64 i)]++List.replicate 13 .junk),todo:=todoOu,defers:=[],ret:=false,kind:=.normal,ro:=none }
theorem ou0 (l:List SV) (off n c:Nat):reach EOu 2 60 (entOu l off n c) [(1000,.b true)] [(0,0)] [0] (hdOu off n c nilE 0) 6 [lkE l]=[
 Value.slice none (0:Nat) (0:Nat)=Value.slice none (0:Nat) (0:Nat),
 off=off∧n=n∧some c=some c,
 Value.int IntKind.i64 (↑n:Int)=Value.int IntKind.i64 (↑n:Int),
 Value.int IntKind.i64 (0:Int)=Value.int IntKind.i64 (0:Int),
 l=l,
 l.all closedSV=true]:=by kernel_rfl
theorem of0 (l:List SV) (off n c:Nat) (x:OutT) (i i':Int):reach EOu 2 100 (SM.at (hdOu off n c nilE i) 6 [lkE l]) (ff [0] true++[(2,.cells (oC x)),(4,.b false)]) [(0,0)] [0] (hdOu off n c nilE i') 6 [lkE l]=[
 Value.slice none (0:Nat) (0:Nat)=Value.slice none (0:Nat) (0:Nat),
 off=off∧n=n∧some c=some c,
 Value.int IntKind.i64 (↑n:Int)=Value.int IntKind.i64 (↑n:Int),
 Value.int IntKind.i64 (IntKind.i64.wrap (i+(1:Int)))=Value.int IntKind.i64 i',
 l=l,
 l.all closedSV=true,
 strayB x.2 x.3=false,
 True,
 List.take (3:Nat) (List.drop (off+i.toNat*(3:Nat)) l)=oC x∧(oC x).length=(3:Nat),
 inRange i n=true,
 decide (i<(↑n:Int))=true]:=by kernel_rfl
theorem ot0 (l l' : List SV) (off n c : Nat) (x : OutT) (i i' : Int) : reach EOu 2 100 (SM.at (hdOu off n c nilE i) 6 [lkE l]) (ff [0] true ++ [(2, .cells (oC x)), (4, .b true), (5, .b false)]) [(0, 0), (1, 3)] [0, 1] (hdOu off n c (.sl 1 0 1 none) i') 6 [lkE l, rowsF l'] = [
  (0 : Nat) = (0 : Nat) ∧ (1 : Nat) = (1 : Nat) ∧ (none : Option Nat) = none,
  off = off ∧ n = n ∧ some c = some c,
  Value.int IntKind.i64 (↑n : Int) = Value.int IntKind.i64 (↑n : Int),
  Value.int IntKind.i64 (IntKind.i64.wrap (i + (1 : Int))) = Value.int IntKind.i64 i',
  l = l,
  l.all closedSV = true,
  [] ++
   List.take (2 : Nat)
   (List.drop (0 : Nat)
   (splice
   (List.replicate (1 : Nat)
   (List.map SV.v
   {
   toList :=
   [Value.int IntKind.i64 (0 : Int),
   Value.string { data := { toList := [] : Array UInt8 } : ByteArray }] :
   Array Value }.toList)).flatten
   (0 : Nat)
   (splice
   (splice
   (List.map SV.v
   {
   toList :=
   [Value.int IntKind.i64 (0 : Int),
   Value.string { data := { toList := [] : Array UInt8 } : ByteArray }] :
   Array Value }.toList)
   (0 : Nat) [SV.v (Value.int IntKind.i64 (5 : Int))])
   (1 : Nat) [SV.v (Value.string x.1)]))) =
   l',
  l'.all closedSV = true,
  false = false,
  strayB x.2 x.3 = true,
  True,
  List.take (3 : Nat) (List.drop (off + i.toNat * (3 : Nat)) l) = oC x ∧ (oC x).length = (3 : Nat),
  inRange i n = true,
  decide (i < (↑n : Int)) = true] := by kernel_rfl
theorem of1 (l m:List SV) (off n c k:Nat) (x:OutT) (i i':Int):reach EOu 2 100 (SM.at (hdOu off n c (.sl 1 0 k none) i) 6 [lkE l,rowsF m]) (ff [0] true++[(2,.cells (oC x)),(4,.b false)]) [(0,0),(1,1)] [0,1] (hdOu off n c (.sl 1 0 k none) i') 6 [lkE l,rowsF m]=[
 (0:Nat)=(0:Nat)∧k=k∧(none:Option Nat)=none,
 off=off∧n=n∧some c=some c,
 Value.int IntKind.i64 (↑n:Int)=Value.int IntKind.i64 (↑n:Int),
 Value.int IntKind.i64 (IntKind.i64.wrap (i+(1:Int)))=Value.int IntKind.i64 i',
 l=l,
 l.all closedSV=true,
 m=m,
 m.all closedSV=true,
 strayB x.2 x.3=false,
 True,
 List.take (3:Nat) (List.drop (off+i.toNat*(3:Nat)) l)=oC x∧(oC x).length=(3:Nat),
 inRange i n=true,
 decide (i<(↑n:Int))=true]:=by kernel_rfl
theorem ot1 (l m w l' : List SV) (off n c k : Nat) (x : OutT) (i i' : Int) : reach EOu 2 100 (SM.at (hdOu off n c (.sl 1 0 k none) i) 6 [lkE l, rowsF m]) (ff [0] true ++ [(2, .cells (oC x)), (4, .b true), (5, .app m w)]) [(0, 0), (1, 4)] [0, 1] (hdOu off n c (.sl 1 0 (k + 1) none) i') 6 [lkE l, rowsF l'] = [
  (0 : Nat) = (0 : Nat) ∧ k + (1 : Nat) = k + (1 : Nat) ∧ (none : Option Nat) = none,
  off = off ∧ n = n ∧ some c = some c,
  Value.int IntKind.i64 (↑n : Int) = Value.int IntKind.i64 (↑n : Int),
  Value.int IntKind.i64 (IntKind.i64.wrap (i + (1 : Int))) = Value.int IntKind.i64 i',
  l = l,
  l.all closedSV = true,
  m ++ w = l',
  l'.all closedSV = true,
  ((List.take (2 : Nat)
   (List.drop (0 : Nat)
   (splice
   (List.replicate (1 : Nat)
   (List.map SV.v
   {
   toList :=
   [Value.int IntKind.i64 (0 : Int),
   Value.string { data := { toList := [] : Array UInt8 } : ByteArray }] :
   Array Value }.toList)).flatten
   (0 : Nat)
   (splice
   (splice
   (List.map SV.v
   {
   toList :=
   [Value.int IntKind.i64 (0 : Int),
   Value.string { data := { toList := [] : Array UInt8 } : ByteArray }] :
   Array Value }.toList)
   (0 : Nat) [SV.v (Value.int IntKind.i64 (5 : Int))])
   (1 : Nat) [SV.v (Value.string x.1)]))) =
   w ∧
   w.length = (1 : Nat) * (2 : Nat)) ∧
   (1 : Nat) ≠ (0 : Nat) ∧ ((2 : Nat) * (k + (1 : Nat)) + (1024 : Nat)) * (24 : Nat) ≤ (140737488355328 : Nat)) ∧
   List.take (k * (2 : Nat)) m = m ∧ m.length = k * (2 : Nat) ∧ w.all SV.flat = true,
  strayB x.2 x.3 = true,
  True,
  List.take (3 : Nat) (List.drop (off + i.toNat * (3 : Nat)) l) = oC x ∧ (oC x).length = (3 : Nat),
  inRange i n = true,
  decide (i < (↑n : Int)) = true] := by kernel_rfl
theorem oe0 (l:List SV) (off n c:Nat) (i:Int) (v:Value):endsV EOu 11 60 (SM.at (hdOu off n c nilE i) 6 [lkE l]) (ff [0] false) v=[
 Value.slice none (0:Nat) (0:Nat)=v,
 decide (i<(↑n:Int))=false]:=by kernel_rfl
theorem oe1 (l m:List SV) (off n c k:Nat) (i:Int):endsO EOu 11 60 (SM.at (hdOu off n c (.sl 1 0 k none) i) 6 [lkE l,rowsF m]) (ff [0] false) (.sl 1 0 k none) 1 (.row m 57 (0,0) (some 2))=[
 (0:Nat)=(0:Nat)∧k=k∧(none:Option Nat)=none,
 m=m,
 m.all closedSV=true,
 decide (i<(↑n:Int))=false]:=by kernel_rfl
theorem findSk_app (k:Int) (a b:List ByteArray):findSk k (a++b)=findSk k a++findSk k b:=by simp [findSk]
theorem findSk_one (k:Int) (q:ByteArray):findSk k [q]=findCk k q:=by simp [findSk]
theorem findSk_len (k:Int):∀ a:List ByteArray,(findSk k a).length=a.length*2
 | []=>rfl
 | q::a=>by
  have:=findSk_len k a
  have e:findSk k (q::a)=findCk k q++findSk k a:=by simp [findSk]
  rw [e,List.length_append,this,List.length_cons,show (findCk k q).length=2 from rfl];omega
theorem findSk_flat (k:Int) (l:List ByteArray):(findSk k l).all SV.flat=true:=by
 rw [List.all_eq_true];intro x hx
 obtain ⟨q,_,hq⟩:=List.mem_flatMap.1 hx
 simp only [findCk,List.mem_cons,List.not_mem_nil,or_false] at hq
 rcases hq with rfl | rfl <;> rfl
theorem findSk_val {ν:Val} {k:Int} {l:List ByteArray} {zs:List Value} (h:VRL ν (findSk k l) zs):zs=findVk k l:=by
 rw [← findSk_map] at h
 exact plain_sol h (VRL.lits ν _)
def strayO (xs:List OutT):List ByteArray:=(xs.filter fun x=>strayB x.k x.e).map (·.p)
theorem strayO_snoc {xs:List OutT} {i:Nat} (h:i<xs.length):strayO (xs.take (i+1))=strayO (xs.take i)++(if strayB xs[i].k xs[i].e=true then [xs[i].p] else []):=by
 unfold strayO
 rw [List.take_add_one,List.getElem?_eq_getElem h,List.filter_append,List.map_append]
 congr 1
 cases hd:strayB xs[i].k xs[i].e <;> simp [hd]
theorem strayO_len (xs:List OutT):(strayO xs).length≤xs.length:=by
 unfold strayO;rw [List.length_map];exact List.length_filter_le _ _
def ROu (w:World) (l:List ByteArray) (e:Ending) (w':World):Prop:=Below w.heap.size w w'∧∃ v,e=.returned v∧((l=[]∧v=.slice none 0 0)∨(l≠[]∧NewSl w w' v (findVk 5 l) l.length 2 57))
section
variable {w0:World} {cs0:List Frame} {xs:List OutT} {M:Own} {ν:Val} {off c:Nat}
theorem loopOu1 (hM:∀ z,¬ M z) (hν:∀ i b,ν i=some b→i=0) (few:xs.length≤100000):∀ (j i:Nat),i+j=xs.length→strayO (xs.take i)≠[]→
  Goes EOu M w0 cs0 11 (ROu w0 (strayO xs)) ν (SM.at (hdOu off xs.length c (.sl 1 0 (strayO (xs.take i)).length none) (i:Int)) 6 [lkE (rowsAt oC off xs),rowsF (findSk 5 (strayO (xs.take i)))])
 | 0,i,hj,hne=>by
  rw [List.take_of_length_le (by omega)] at hne ⊢
  refine Goes.endsO KOu (n:=60) (o:=ff [0] false) (x:=.sl 1 0 (strayO xs).length none) (i:=1) (so:=.row (findSk 5 (strayO xs)) 57 (0,0) (some 2)) (by
   rw [oe1]
   simp only [Owed,findSk_closed,and_self,and_true,true_and]
   exact decide_eq_false (by omega)) fun ν' w' y b1 ob hv hb ho hor hw hB'=>?_
  obtain ⟨M3,w3,M4,s',hBb,hr⟩:=hB'
  have hn:w0.heap.size≤b1.1:=by
   rcases hw with h | h
   ·exact h
   ·exact absurd h (hM _)
  exact ⟨below_of hM hBb hr,y,rfl,.inr ⟨hne,NewSl.of_row hv hb ho hor hn fun zs hz=>findSk_val hz⟩⟩
 | j+1,i,hj,hne=>by
  have hi:i<xs.length:=by omega
  have hxi:xs[i]?=some xs[i]:=List.getElem?_eq_getElem hi
  have ra:=rowsAt_at (off:=off) oC_len hxi
  have hcl:(rowsAt oC off xs).all closedSV=true:=rowsAt_closed oC_closed
  have t1:decide ((i:Int)<(xs.length:Int))=true:=decide_eq_true (by omega)
  have hfl:(strayO (xs.take i)).length≤100000:=Nat.le_trans (strayO_len _) (by rw [List.length_take];omega)
  have hsn:=strayO_snoc hi
  cases hd:strayB xs[i].k xs[i].e
  ·rw [hd,if_neg (by decide),List.append_nil] at hsn
   have nx:=loopOu1 hM hν few j (i+1) (by omega) (by rw [hsn];exact hne)
   rw [hsn] at nx
   refine Goes.reach KOu (k:=2) (n:=100) (o:=ff [0] true++[(2,.cells (oC xs[i])),(4,.b false)]) (ren:=[(0,0),(1,1)]) (eqs:=[0,1]) ?_ (by kernel_rfl) (fun i b h=>by rw [hν i b h];rfl) nx
   rw [of1]
   simp only [Owed,Int.toNat_natCast,wrap_succ (k:=i) (by omega),in_range hi,t1,ra,hcl,oC_len,findSk_closed,and_self,and_true,true_and]
   repeat' apply And.intro
   all_goals first | rfl | exact hd | omega | skip
  ·rw [hd,if_pos rfl] at hsn
   have nx:=loopOu1 hM hν few j (i+1) (by omega) (by rw [hsn];simp)
   rw [hsn,List.length_append,show ([xs[i].p]:List ByteArray).length=1 from rfl,findSk_app,findSk_one] at nx
   refine Goes.reach KOu (k:=2) (n:=100) (o:=ff [0] true++[(2,.cells (oC xs[i])),(4,.b true),(5,.app (findSk 5 (strayO (xs.take i))) (findCk 5 xs[i].p))]) (ren:=[(0,0),(1,4)]) (eqs:=[0,1]) ?_ (by kernel_rfl) (fun i b h=>by rw [hν i b h];rfl) nx
   rw [ot1]
   simp only [Owed,Int.toNat_natCast,wrap_succ (k:=i) (by omega),in_range hi,t1,ra,hcl,oC_len,findSk_closed,findSk_flat,findSk_len,List.all_append,and_self,and_true,true_and]
   repeat' apply And.intro
   all_goals first | rfl | exact hd | omega | exact List.take_of_length_le (by rw [findSk_len];exact Nat.le_refl _) | skip
theorem loopOu0 (hM:∀ z,¬ M z) (hν:∀ i b,ν i=some b→i=0) (few:xs.length≤100000):∀ (j i:Nat),i+j=xs.length→strayO (xs.take i)=[]→
  Goes EOu M w0 cs0 11 (ROu w0 (strayO xs)) ν (SM.at (hdOu off xs.length c nilE (i:Int)) 6 [lkE (rowsAt oC off xs)])
 | 0,i,hj,hne=>by
  rw [List.take_of_length_le (by omega)] at hne
  refine Goes.endsV KOu (n:=60) (o:=ff [0] false) (v:=.slice none 0 0) ?_ fun ν' M1 w1 s' w' _ hB' hr=>⟨below_of hM hB' hr,_,rfl,.inl ⟨hne,rfl⟩⟩
  rw [oe0]
  simp only [Owed,and_self,and_true,true_and]
  exact decide_eq_false (by omega)
 | j+1,i,hj,hne=>by
  have hi:i<xs.length:=by omega
  have hxi:xs[i]?=some xs[i]:=List.getElem?_eq_getElem hi
  have ra:=rowsAt_at (off:=off) oC_len hxi
  have hcl:(rowsAt oC off xs).all closedSV=true:=rowsAt_closed oC_closed
  have t1:decide ((i:Int)<(xs.length:Int))=true:=decide_eq_true (by omega)
  have hsn:=strayO_snoc hi
  rw [hne,List.nil_append] at hsn
  cases hd:strayB xs[i].k xs[i].e
  ·rw [hd,if_neg (by decide)] at hsn
   have nx:=loopOu0 hM hν few j (i+1) (by omega) hsn
   refine Goes.reach KOu (k:=2) (n:=100) (o:=ff [0] true++[(2,.cells (oC xs[i])),(4,.b false)]) (ren:=[(0,0)]) (eqs:=[0]) ?_ (by kernel_rfl) (fun i b h=>by rw [hν i b h];rfl) nx
   rw [of0]
   simp only [Owed,Int.toNat_natCast,wrap_succ (k:=i) (by omega),in_range hi,t1,ra,hcl,oC_len,nilE,and_self,and_true,true_and]
   repeat' apply And.intro
   all_goals first | rfl | exact hd | omega | skip
  ·rw [hd,if_pos rfl] at hsn
   have nx:=loopOu1 (w0:=w0) (cs0:=cs0) (c:=c) (off:=off) hM hν few j (i+1) (by omega) (by rw [hsn];simp)
   rw [hsn,show ([xs[i].p]:List ByteArray).length=1 from rfl,findSk_one] at nx
   refine Goes.reach KOu (k:=2) (n:=100) (o:=ff [0] true++[(2,.cells (oC xs[i])),(4,.b true),(5,.b false)]) (ren:=[(0,0),(1,3)]) (eqs:=[0,1]) ?_ (by kernel_rfl) (fun i b h=>by rw [hν i b h];rfl) nx
   rw [ot0]
   simp only [Owed,Int.toNat_natCast,wrap_succ (k:=i) (by omega),in_range hi,t1,ra,hcl,oC_len,and_self,and_true,true_and]
   repeat' apply And.intro
   all_goals first | rfl | exact hd | omega | skip
end
theorem oun (a:Option Addr) (c:Nat) (v:Value):endsV EOu 11 60 (entE EOu 11 [.v (.slice a 0 c)]) [(1000,.b true)] v=[
 Value.slice none (0:Nat) (0:Nat)=v]:=by kernel_rfl
theorem outcomes_calls {W:World} {a:Option Addr} {l c:Nat} {D:List OutT} (h:OutsIn W a l c D) (few:D.length≤100000):Calls Tryz.prog 11 #[.slice a l c] W (ROu W (strayO D)):=by
 rcases h with ⟨rfl,rfl⟩ | ⟨b,off,cs,e,fz,rfl,rfl,hlc,hh,hoff,hc⟩
 ·refine (calls_endsV (E:=EOu) (args:=[.v (.slice a 0 c)]) (a:=[.slice a 0 c]) (n:=60) (o:=[(1000,.b true)]) (v:=.slice none 0 0) rfl rfl KOu (by kernel_rfl) (VRL.cons (VR.v_iff.2 rfl) VRL.nil) ⟨?_⟩).mono fun e w' ⟨hB,he⟩=>⟨hB,_,he,.inl ⟨rfl,rfl⟩⟩
  rw [oun]
  simp only [Owed,and_self,and_true,true_and]
 ·refine (calls_readR (E:=EOu) rfl (d:=6) (l:=[(b,0)]) (os:=[.look (rowsAt oC off D)]) rfl (by simp) (by simp) ?_ rfl (args:=[.sl 0 off D.length (some c)]) (a:=[.slice (some ⟨b,off,none⟩) D.length c]) (S0:=entOu (rowsAt oC off D) off D.length c) (by kernel_rfl) (VRL.cons (VR.sl_iff.2 ⟨(b,0),rfl,hlc,rfl⟩) VRL.nil) fun cs0=>?_)
  ·intro j o' b' c' h1 h2
   match j with
   | 0=>
    simp only [List.getElem?_cons_zero,Option.some.injEq] at h1 h2
    subst h1
    cases h2
    exact ⟨_,hh,rowsAt_look (h:=oV) (fun ν x=>VRL.lits ν (oV x)) hoff hc⟩
   | j+1=>simp at h1
  ·have hM:∀ z,¬ (layOwn [(b,0)] ([SO.look (rowsAt oC off D)].map fun o=>(o,false))) z:=fun z=>layOwn_none
   have hν:∀ i c,layVal [(b,0)] i=some c→i=0:=fun i c h=>lay1' h
   have hcl:(rowsAt oC off D).all closedSV=true:=rowsAt_closed oC_closed
   have nx:=loopOu0 (w0:=W) (cs0:=cs0) (c:=c) (off:=off) hM hν few D.length 0 (by omega) rfl
   refine Goes.reach KOu (k:=2) (n:=60) (o:=[(1000,.b true)]) (ren:=[(0,0)]) (eqs:=[0]) (F:=hdOu off D.length c nilE 0) (d:=6) (l:=[lkE (rowsAt oC off D)]) ?_ (by kernel_rfl) (fun i b h=>by rw [hν i b h];rfl) nx
   rw [ou0]
   simp only [Owed,hcl,nilE,and_self,and_true,true_and]
def wordN (n:Int):ByteArray:=if n=1 then ⟨#[117,110,108,105,107,101]⟩ else if n=2 then ⟨#[116,111,117,99,104,101,100]⟩ else if n=3 then ⟨#[97,112,97,114,116]⟩ else if n=4 then ⟨#[111,118,101,114]⟩ else if n=5 then ⟨#[115,116,114,97,121]⟩ else ⟨#[]⟩
theorem nameK0 {w:World}:Calls Tryz.prog 13 #[.int .i64 0] w fun r w'=>r=.returned (.string ⟨#[]⟩)∧Below w.heap.size w w':=by
 go_enter Tryz.func13,Tryz.ntmps13
 go_wp2
 go_ret
 exact ⟨rfl,below1⟩
theorem nameK1 {w:World}:Calls Tryz.prog 13 #[.int .i64 1] w fun r w'=>r=.returned (.string ⟨#[117,110,108,105,107,101]⟩)∧Below w.heap.size w w':=by
 go_enter Tryz.func13,Tryz.ntmps13
 go_wp2
 go_ret
 exact ⟨rfl,below1⟩
theorem nameK2 {w:World}:Calls Tryz.prog 13 #[.int .i64 2] w fun r w'=>r=.returned (.string ⟨#[116,111,117,99,104,101,100]⟩)∧Below w.heap.size w w':=by
 go_enter Tryz.func13,Tryz.ntmps13
 go_wp2
 go_ret
 exact ⟨rfl,below1⟩
theorem nameK3 {w:World}:Calls Tryz.prog 13 #[.int .i64 3] w fun r w'=>r=.returned (.string ⟨#[97,112,97,114,116]⟩)∧Below w.heap.size w w':=by
 go_enter Tryz.func13,Tryz.ntmps13
 go_wp2
 go_ret
 exact ⟨rfl,below1⟩
theorem nameK4 {w:World}:Calls Tryz.prog 13 #[.int .i64 4] w fun r w'=>r=.returned (.string ⟨#[111,118,101,114]⟩)∧Below w.heap.size w w':=by
 go_enter Tryz.func13,Tryz.ntmps13
 go_wp2
 go_ret
 exact ⟨rfl,below1⟩
theorem nameK5 {w:World}:Calls Tryz.prog 13 #[.int .i64 5] w fun r w'=>r=.returned (.string ⟨#[115,116,114,97,121]⟩)∧Below w.heap.size w w':=by
 go_enter Tryz.func13,Tryz.ntmps13
 go_wp2
 go_ret
 exact ⟨rfl,below1⟩
theorem nameLow {w:World} {n:Int} (h:n<0):Calls Tryz.prog 13 #[.int .i64 n] w fun r w'=>r=.returned (.string ⟨#[]⟩)∧Below w.heap.size w w':=by
 have d1:decide (n<0)=true:=decide_eq_true h
 go_enter Tryz.func13,Tryz.ntmps13
 go_wp2
 go_ret
 exact ⟨rfl,below1⟩
theorem nameHigh {w:World} {n:Int} (h:n≥6):Calls Tryz.prog 13 #[.int .i64 n] w fun r w'=>r=.returned (.string ⟨#[]⟩)∧Below w.heap.size w w':=by
 have d1:decide (n<0)=false:=decide_eq_false (by omega)
 have d2:decide (n≥6)=true:=decide_eq_true h
 go_enter Tryz.func13,Tryz.ntmps13
 go_wp2
 go_ret
 exact ⟨rfl,below1⟩
theorem nameW {w:World} (n:Int):Calls Tryz.prog 13 #[.int .i64 n] w fun r w'=>r=.returned (.string (wordN n))∧Below w.heap.size w w':=by
 by_cases h1:n<0
 ·refine (nameLow h1).mono fun r w' ⟨h,hb⟩=>⟨?_,hb⟩
  rw [h];unfold wordN
  rw [if_neg (by omega),if_neg (by omega),if_neg (by omega),if_neg (by omega),if_neg (by omega)]
 ·by_cases h2:n≥6
  ·refine (nameHigh h2).mono fun r w' ⟨h,hb⟩=>⟨?_,hb⟩
   rw [h];unfold wordN
   rw [if_neg (by omega),if_neg (by omega),if_neg (by omega),if_neg (by omega),if_neg (by omega)]
  ·have:n=0∨n=1∨n=2∨n=3∨n=4∨n=5:=by omega
   rcases this with rfl | rfl | rfl | rfl | rfl | rfl
   ·exact nameK0
   ·exact nameK1
   ·exact nameK2
   ·exact nameK3
   ·exact nameK4
   ·exact nameK5
end paths
end Go.Proofs.YtbjmmnegkpeboaaGreat
