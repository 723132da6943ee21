/- What the law VaultLoads leans on, part 5: the symbolic executor, proved sound, contracts of functions, plain lemmas. By an AI agent. -/
import Derived.Test.YtcbokmadfcedaaaGreatDoorPk4
set_option linter.unusedSimpArgs false
set_option linter.unusedVariables false
set_option maxRecDepth 100000
namespace Go.Proofs.YtcbokmadfcedaaaGreatDoor
open Go Go.Rx Go.RowKit Go.Proofs
namespace paths
namespace ez
open eye (lkB numR numR_cons u64_in)
open crc (bC bC_len bC_closed b_at cells_obj bC_flat)
theorem Pg {M:Own} {w0:World} (hX:MX w0) (hM:∀ b,M b→b≠2):aE vU M w0:=
 aE.AR (Checked.mixed Tryz.checked) (by kernel_rfl) (eR.of ji rfl dL) (cV.oI (X:=MX) (l:=Kx) rfl (fun r h=>by
  simp only [Kx,List.mem_cons,List.not_mem_nil,or_false] at h
  rcases h with rfl | rfl | rfl | rfl
  ·exact sA.sum
  ·exact Dz
  ·exact oX.t
  ·exact (j6 zq).t) fun ν s w hr _=>by
   obtain ⟨z,hz⟩:=hX
   refine ⟨z,?_⟩
   have hlt:2<w0.heap.size:=by
    unfold World.cell? at hz
    by_cases h:2<w0.heap.size
    ·exact h
    ·rw [Array.getElem?_eq_none (Nat.le_of_not_lt h)] at hz;cases hz
   rw [← hz]
   unfold World.cell?
   rw [hr.frame _ hlt fun h=>hM _ h rfl]) (fun f g h=>by cases h)
def JT (W : World) (b blk o l c : Nat) (zs : List Int) (e : Ending) (w' : World) : Prop := Alt (· = b) W w' ∧
  ((∃ p v k d y k2 o' c', dT zs = (some (p, v, k, d), 0, zs.drop k2) ∧ 0 < k2 ∧ k2 ≤ l ∧ e = .returned (.agg #[.string p, .int .u64 v, .int .i64 k, y]) ∧ w'.heap[b]? = some (eO TG (some ⟨blk, o', none⟩) (l - k2) c' 0) ∧ l - k2 ≤ c' ∧ lC o l k2 o' ∧ (o', c') = eH aT zs o c ∧
      ((k ≠ 1 ∧ y = .slice none 0 0 ∧ d = []) ∨ (k = 1 ∧ eZ W w' y (d.map (Value.int .u8)) d.length 1 5))) ∨
   ∃ f', f' ≠ 0 ∧ dT zs = (none, f', []) ∧ e = .returned PE ∧ w'.heap[b]? = some (eO TG none 0 0 f'))
section
variable {W:World} {b blk:Nat} {xs:List SV} {cs0:List Frame} {H:Hp} {E:Env}
theorem G6 {R:Ending→World→Prop} {g:FuncId} {M:Own} {S:SM} {k j:Nat} {o:List (Nat × c9)} {x:SV} {so' so2:SO} {os:List (SO × Bool)} (K:aE E M W) (hM:M=az [(b,0),(blk,0)] os) (hos:∀ x∈os.tail,x.2=false) (hk:gl (mo [(b,0),(blk,0)] os fun _=>False) W H M W)
  (hrun:cp (aB E g k S o [(0,0),(1,1),(2,j)] [1,2] x [some (so',true),lkB xs,some (so2,true)]))
  (hR:∀ w' (ν:aA) y ob b2 ob2,ν 0=some (b,0)→ν 1=some (blk,0)→VR ν x y→Alt (·=b) W w'→w'.heap[b]?=some ob→OR ν 0 so' ob→ν 2=some b2→w'.heap[b2.1]?=some ob2→OR ν 2 so2 ob2→W.heap.size≤b2.1→R (.returned y) w'):ao E M W cs0 g R (ax [(b,0),(blk,0)]) S:=by
 subst hM
 have hown:∀ k,(az [(b,0),(blk,0)] os) k→k=b:=fun k h=>by
  obtain ⟨i,o,c,h1,h2⟩:=h
  cases i with
  | zero=>simp at h2;exact h2.1.symm
  | succ i=>
   have:os.tail[i]?=some (o,true):=by rw [List.getElem?_tail];exact h1
   have:=hos _ (List.mem_of_getElem? this)
   cases this
 refine ao.aB K hrun.out fun ν' w' y hle hv hE hex=>?_
 have hA:=(eye.iT hk hex).mono (T':=(·=b)) fun k _ hk'=>by
  rcases hk' with h | h
  ·exact hown k h
  ·exact h.elim
 obtain ⟨b',ob,hb',hob,hor,_⟩:=hE.obj 0 _ _ rfl
 obtain ⟨b2,ob2,hb2,hob2,hor2,hw2⟩:=hE.obj 2 _ _ rfl
 have mI:(ν'.ren [(0,0),(1,1),(2,j)]) 0=some (b,0):=hle 0 (b,0) rfl
 have hb1:(ν'.ren [(0,0),(1,1),(2,j)]) 1=some (blk,0):=hle 1 (blk,0) rfl
 have hne:b2.1≠b:=fun e=>by
  have:=hE.inj 2 0 _ _ _ _ b2 (b,0) rfl rfl hb2 mI e
  cases this
 rw [mI] at hb';cases hb'
 refine hR w' _ y ob b2 ob2 mI hb1 hv hA hob hor hb2 hob2 hor2 ?_
 rcases hw2 rfl with h | h
 ·exact h
 ·exact absurd (hown _ h) hne
theorem wI {o l c:Nat} {zs:List Int} (hX:MX W) (he:W.heap[b]?=some (eO TG (some ⟨blk,o,none⟩) l c 0)) (hb:BytesIn W blk o zs) (hl:zs.length=l) (hlc:l≤c) (dF:l≤140737488355328) (hne:blk≠b) (hz:∀ z∈zs,0≤z∧z<256):
  Calls Tryz.prog 126 #[.pointer (some ⟨b,0,none⟩)] W (JT W b blk o l c zs):=by
 have hcl:(ak bC o zs).all ae=true:=bO bC_closed
 have hbm:b≠2:=by
  rintro rfl
  obtain ⟨z,hz⟩:=hX
  unfold World.cell? at hz
  rw [he] at hz
  simp [eO] at hz
 refine cZ (E:=vU) rfl (d:=6) (l:=[(b,0),(blk,0)]) (os:=[(.row [.sl 1 o l (some c),.v (.int .i64 0)] TG (0,0) none,true),(.look (ak bC o zs),false)]) (H:=fun _=>none) (T:=fun _=>False) rfl (by simp) (by simpa using fun e=>hne e.symm) (qK he hb hlc) (fun g i hg=>by cases hg) (fun _ _ hh=>by cases hh) (fun _ _ _ _ _ hh=>by cases hh)
  (args:=[.ptr 0 0]) (a:=[.pointer (some ⟨b,0,none⟩)]) (S0:=gL o l c (ak bC o zs)) (by kernel_rfl) (aj.cons (VR.aw.2 ⟨(b,0),rfl,rfl⟩) aj.nil) fun cs0 hk=>?_
 have hB:Told (ak bC o zs) o l zs:=⟨lA hl dF hz,by unfold ak;rw [List.length_append,List.length_replicate,pE,hl];omega⟩
 have hK:aE vU (az [(b,0),(blk,0)] [(SO.row [.sl 1 o l (some c),.v (.int .i64 0)] TG (0,0) none,true),(SO.look (ak bC o zs),false)]) W:=Pg hX fun x hx=>by
  obtain ⟨i,o,c,h1,h2⟩:=hx
  match i with
  | 0=>simp at h2;rw [← h2.1];exact hbm
  | 1=>simp at h1
  | i+2=>simp at h1
 generalize hxs:ak bC o zs=xs at hcl hB hk hK ⊢
 have bad:∀ {f':Int},f'≠0→dT zs=(none,f',[])→∀ w' (ν:aA) y ob,ν 0=some (b,0)→ν 1=some (blk,0)→VR ν (.v PE) y→Alt (·=b) W w'→w'.heap[b]?=some ob→OR ν 0 (.row [.v (.slice none 0 0),.v (.int .i64 f')] TG (0,0) none) ob→JT W b blk o l c zs (.returned y) w':=by
  intro f' hf hn w' ν y ob _ _ hv hA hob hor
  obtain rfl:=VR.ab.1 hv
  exact ⟨hA,.inr ⟨f',hf,hn,rfl,by rw [hob,told_plain hor]⟩⟩
 have nz:(0:Int)≤(0:Int):=Int.le_refl _
 have nb:(0:Int)<(18446744073709551616:Int):=by decide
 have ns:(0:Nat)≤(1000000000:Nat):=Nat.zero_le _
 have an:∀ {f:Int},f≠0→jg TG TG (0,0) f (IntKind.u64.wrap (2:Int)):=fun hf=>⟨rfl,rfl,hf,by decide⟩
 have am:∀ {f:Int},f≠0→jg TG TG (0,0) f (18446744073709551615:Int):=fun hf=>⟨rfl,rfl,hf,by decide⟩
 generalize h1:bX 96 zs=q1
 obtain ⟨t,f1,z2⟩:=q1
 by_cases hf1:f1=0
 case neg=>
  obtain ⟨_,hcase⟩:=iE h1 hf1
  have hE:=pQ h1 hf1
  rcases hcase with ⟨n,r,hn⟩ | ⟨rfl,n,r,hn,hs⟩
  ·have a1:il TG TG (0,0) 0 xs (IntKind.u64.wrap (96:Int)) o l c f1:=nJ hB hlc (mm:=96) (by decide) (by decide) hn hf1
   have e1:=oP hf1
   have e2:=gP hf1
   have a2:=an hf1
   have a3:=am hf1
   refine cj hK rfl bz hk (ah (OC (o:=o) (l:=l) (c:=c) (xs:=xs) (n1:=0) (o1:=0) (l1:=0) (c1:=0) (n2:=0) (o2:=0) (l2:=0) (c2:=0) (n3:=0) (o3:=0) (l3:=0) (c3:=0) (n4:=0) (o4:=0) (l4:=0) (c4:=0) (o5:=0) (l5:=0) (c5:=0) (o6:=0) (l6:=0) (c6:=0) (p:=⟨#[]⟩) (a1:=#[]) (a2:=#[]) (f':=f1)) ?_) (bad hf1 hE)
   simp only [af]
   repeat' apply And.intro
   all_goals first | exact True.intro | with_reducible assumption | with_reducible rfl | rfl
  ·obtain ⟨k,hk0,hkl,rfl,hnm,P1,A1,T1,hlc1,_⟩:=gU pY (T:=TG) hB hlc (m:=IntKind.u64.wrap (96:Int)) (mm:=96) (by decide) (by decide) hn
   have hw:=lK hnm (by decide)
   have hdl:=T1.bx.len
   have a1:rr TG (0,0) 0 (IntKind.i64.wrap (n:Int)) (l - k) (c - k):=⟨rfl,rfl,rfl,by rw [hw];omega,hlc1⟩
   have a1':aT o c k≤xs.length:=by have:=T1.ob;omega
   have a2:jg TG TG (0,0) 11 (IntKind.u64.wrap (2:Int)):=an (by decide)
   have a3:jg TG TG (0,0) 11 (18446744073709551615:Int):=am (by decide)
   refine cj hK rfl bz hk (ah (Mu (o:=o) (l:=l) (c:=c) (xs:=xs) (n1:=n) (o1:=aT o c k) (l1:=l - k) (c1:=c - k) (n2:=0) (o2:=0) (l2:=0) (c2:=0) (n3:=0) (o3:=0) (l3:=0) (c3:=0) (n4:=0) (o4:=0) (l4:=0) (c4:=0) (o5:=0) (l5:=0) (c5:=0) (o6:=0) (l6:=0) (c6:=0) (p:=⟨#[]⟩) (a1:=#[]) (a2:=#[]) (f':=0)) ?_) (bad (f':=11) (by decide) hE)
   simp only [af]
   repeat' apply And.intro
   all_goals first | exact True.intro | with_reducible assumption | with_reducible rfl | rfl
 subst hf1
 obtain ⟨n1,k1,o1,l1,c1,o2,l2,c2,P1,⟨K1,K2⟩,C1,T2,hlc2,rfl,hk1l,hk10,rfl,A2,hn1,hz1,hn1m,p2⟩:=vt hB hlc (m:=IntKind.u64.wrap (96:Int)) (mm:=96) (by decide) (by decide) h1
 obtain ⟨L1,L2⟩:=BQ hn1 hz1
 have hps:(bt t).size≤1000000000:=zG hn1 hn1m (by decide)
 generalize h2:numR 18446744073709551615 (zs.drop k1)=q2
 obtain ⟨v,f2,z3⟩:=q2
 by_cases hf2:f2=0
 case neg=>
  have a1:il TG TG (0,0) 0 xs (18446744073709551615:Int) o2 (l - k1) c2 f2:=nJ T2 hlc2 (mm:=18446744073709551615) rfl (by decide) h2 hf2
  have e1:=oP hf2
  have e2:=gP hf2
  have a2:=an hf2
  have e3:(!bw (bt t) (0:Int) (0:Int) (0:Nat)==(0:Int))=true:=by
   unfold bw
   cases ee (bt t) <;> simp [jf]
  refine cj hK rfl bz hk (ah (L3 (o:=o) (l:=l) (c:=c) (xs:=xs) (n1:=n1) (o1:=o1) (l1:=l1) (c1:=c1) (n2:=0) (o2:=o2) (l2:=l - k1) (c2:=c2) (n3:=0) (o3:=0) (l3:=0) (c3:=0) (n4:=0) (o4:=0) (l4:=0) (c4:=0) (o5:=0) (l5:=0) (c5:=0) (o6:=0) (l6:=0) (c6:=0) (p:=bt t) (a1:=(t.map (Value.int .u8)).toArray) (a2:=#[]) (f':=f2)) ?_) (bad hf2 (qT h1 h2 hf2))
  simp only [af]
  repeat' apply And.intro
  all_goals first | exact True.intro | with_reducible assumption | with_reducible rfl | rfl
 subst hf2
 obtain ⟨k3,hk30,hk3l,rfl,hvm,P2,A3,T3,hlc3,p3⟩:=gU pY (T:=TG) T2 hlc2 (m:=18446744073709551615) (mm:=18446744073709551615) rfl (by decide) h2
 generalize h3:numR 2 ((zs.drop k1).drop k3)=q3
 obtain ⟨k,f3,z4⟩:=q3
 have hv0:(0:Int)≤(v:Int):=by omega
 have hv1:(v:Int)<18446744073709551616:=by omega
 have e9:∀ {bb:Bool} {kk:Int} {ll:Nat},(bw (bt t) (v:Int) kk ll==(0:Int))=bb→(!bw (bt t) (v:Int) kk ll==(0:Int))=!bb:=fun h=>by rw [h]
 by_cases hf3:f3=0
 case neg=>
  have a1:il TG TG (0,0) 0 xs (IntKind.u64.wrap (2:Int)) (aT o2 c2 k3) (l - k1 - k3) (c2 - k3) f3:=nJ T3 hlc3 (mm:=2) (by decide) (by decide) h3 hf3
  have e1:=oP hf3
  have e2:=gP hf3
  cases hc:(bw (bt t) (v:Int) (0:Int) (0:Nat)==(0:Int))
  ·have e3:(!bw (bt t) (v:Int) (0:Int) (0:Nat)==(0:Int))=true:=e9 hc
   refine cj hK rfl bz hk (ah (Lp (o:=o) (l:=l) (c:=c) (xs:=xs) (n1:=n1) (o1:=o1) (l1:=l1) (c1:=c1) (n2:=v) (o2:=o2) (l2:=l - k1) (c2:=c2) (n3:=0) (o3:=aT o2 c2 k3) (l3:=l - k1 - k3) (c3:=c2 - k3) (n4:=0) (o4:=0) (l4:=0) (c4:=0) (o5:=0) (l5:=0) (c5:=0) (o6:=0) (l6:=0) (c6:=0) (p:=bt t) (a1:=(t.map (Value.int .u8)).toArray) (a2:=#[]) (f':=f3)) ?_) (bad hf3 (j2 h1 h2 h3 hf3))
   simp only [af]
   repeat' apply And.intro
   all_goals first | exact True.intro | with_reducible assumption | with_reducible rfl | rfl
  ·have e3:(!bw (bt t) (v:Int) (0:Int) (0:Nat)==(0:Int))=false:=e9 hc
   refine cj hK rfl bz hk (ah (J7 (o:=o) (l:=l) (c:=c) (xs:=xs) (n1:=n1) (o1:=o1) (l1:=l1) (c1:=c1) (n2:=v) (o2:=o2) (l2:=l - k1) (c2:=c2) (n3:=0) (o3:=aT o2 c2 k3) (l3:=l - k1 - k3) (c3:=c2 - k3) (n4:=0) (o4:=0) (l4:=0) (c4:=0) (o5:=0) (l5:=0) (c5:=0) (o6:=0) (l6:=0) (c6:=0) (p:=bt t) (a1:=(t.map (Value.int .u8)).toArray) (a2:=#[]) (f':=f3)) ?_) (bad hf3 (j2 h1 h2 h3 hf3))
   simp only [af]
   repeat' apply And.intro
   all_goals first | exact True.intro | with_reducible assumption | with_reducible rfl | rfl
 subst hf3
 obtain ⟨k4,hk40,hk4l,rfl,hkm,P3,A4,T4,hlc4,p4⟩:=gU pY (T:=TG) T3 hlc3 (m:=IntKind.u64.wrap (2:Int)) (mm:=2) (by decide) (by decide) h3
 have hw:=tL hkm
 have AA:lC o l (k1+(k3+k4)) (aT (aT o2 c2 k3) (c2 - k3) k4):=A2.trans (A3.trans A4 (by omega)) (by omega)
 have hd4:((zs.drop k1).drop k3).drop k4=zs.drop (k1+(k3+k4)):=by rw [List.drop_drop,List.drop_drop]
 have hl4:l - k1 - k3 - k4=l - (k1+(k3+k4)):=by omega
 by_cases hk1':k=1
 case neg=>
  have hkf:=C7 hkm hk1'
  have hR:=qo h1 h2 h3 hk1'
  by_cases hc:bw (bt t) v k 0=0
  ·have e0:(!bw (bt t) (v:Int) (IntKind.i64.wrap (k:Int)) 0==(0:Int))=false:=by rw [hw,hc];rfl
   refine cj hK rfl bz hk (ah (Oc (o:=o) (l:=l) (c:=c) (xs:=xs) (n1:=n1) (o1:=o1) (l1:=l1) (c1:=c1) (n2:=v) (o2:=o2) (l2:=l - k1) (c2:=c2) (n3:=k) (o3:=aT o2 c2 k3) (l3:=l - k1 - k3) (c3:=c2 - k3) (n4:=0) (o4:=aT (aT o2 c2 k3) (c2 - k3) k4) (l4:=l - k1 - k3 - k4) (c4:=c2 - k3 - k4) (o5:=0) (l5:=0) (c5:=0) (o6:=0) (l6:=0) (c6:=0) (p:=bt t) (a1:=(t.map (Value.int .u8)).toArray) (a2:=#[]) (f':=0)) ?_) fun w' ν y ob hν0 hν1 hv hA hob hor=>?_
   ·simp only [af]
    repeat' apply And.intro
    all_goals first | exact True.intro | with_reducible assumption | with_reducible rfl | rfl
   ·obtain rfl:=VR.ab.1 hv
    refine ⟨hA,.inl ⟨bt t,v,k,[],.slice none 0 0,k1+(k3+k4),_,c2 - k3 - k4,?_,by omega,by omega,by rw [hw],by rw [hob,en hν1 hor,hl4],by omega,AA,ry h1 h2 h3 hk1' p2 p3 p4,.inl ⟨hk1',rfl,rfl⟩⟩⟩
    rw [hR,jh,if_pos (by exact hc),hd4]
  ·have e0:(!bw (bt t) (v:Int) (IntKind.i64.wrap (k:Int)) 0==(0:Int))=true:=by rw [hw];simpa using hc
   refine cj hK rfl bz hk (ah (N3 (o:=o) (l:=l) (c:=c) (xs:=xs) (n1:=n1) (o1:=o1) (l1:=l1) (c1:=c1) (n2:=v) (o2:=o2) (l2:=l - k1) (c2:=c2) (n3:=k) (o3:=aT o2 c2 k3) (l3:=l - k1 - k3) (c3:=c2 - k3) (n4:=0) (o4:=aT (aT o2 c2 k3) (c2 - k3) k4) (l4:=l - k1 - k3 - k4) (c4:=c2 - k3 - k4) (o5:=0) (l5:=0) (c5:=0) (o6:=0) (l6:=0) (c6:=0) (p:=bt t) (a1:=(t.map (Value.int .u8)).toArray) (a2:=#[]) (f':=0)) ?_) (bad (f':=2) (by decide) (by rw [hR,jh,if_neg (by exact hc)]))
   simp only [af]
   repeat' apply And.intro
   all_goals first | exact True.intro | with_reducible assumption | with_reducible rfl | rfl
 subst hk1'
 have hkt:=BI (k:=1) rfl
 generalize h4:bX 4096 (((zs.drop k1).drop k3).drop k4)=q4
 obtain ⟨d,f4,z5⟩:=q4
 by_cases hf4:f4=0
 case neg=>
  obtain ⟨_,hcase⟩:=iE h4 hf4
  have hE:=lD h1 h2 h3 h4 hf4
  rcases hcase with ⟨n,r,hn⟩ | ⟨rfl,n,r,hn,hs⟩
  ·have a1:il TG TG (0,0) 0 xs (IntKind.u64.wrap (4096:Int)) (aT (aT o2 c2 k3) (c2 - k3) k4) (l - k1 - k3 - k4) (c2 - k3 - k4) f4:=nJ T4 hlc4 (mm:=4096) (by decide) (by decide) hn hf4
   have e1:=oP hf4
   have e2:=gP hf4
   cases hc:(bw (bt t) (v:Int) (0:Int) (0:Nat)==(0:Int))
   ·have e3:(!bw (bt t) (v:Int) (0:Int) (0:Nat)==(0:Int))=true:=e9 hc
    refine cj hK rfl bz hk (ah (Jv (o:=o) (l:=l) (c:=c) (xs:=xs) (n1:=n1) (o1:=o1) (l1:=l1) (c1:=c1) (n2:=v) (o2:=o2) (l2:=l - k1) (c2:=c2) (n3:=1) (o3:=aT o2 c2 k3) (l3:=l - k1 - k3) (c3:=c2 - k3) (n4:=0) (o4:=aT (aT o2 c2 k3) (c2 - k3) k4) (l4:=l - k1 - k3 - k4) (c4:=c2 - k3 - k4) (o5:=0) (l5:=0) (c5:=0) (o6:=0) (l6:=0) (c6:=0) (p:=bt t) (a1:=(t.map (Value.int .u8)).toArray) (a2:=#[]) (f':=f4)) ?_) (bad hf4 hE)
    simp only [af]
    repeat' apply And.intro
    all_goals first | exact True.intro | with_reducible assumption | with_reducible rfl | rfl
   ·have e3:(!bw (bt t) (v:Int) (0:Int) (0:Nat)==(0:Int))=false:=e9 hc
    refine cj hK rfl bz hk (ah (Kg (o:=o) (l:=l) (c:=c) (xs:=xs) (n1:=n1) (o1:=o1) (l1:=l1) (c1:=c1) (n2:=v) (o2:=o2) (l2:=l - k1) (c2:=c2) (n3:=1) (o3:=aT o2 c2 k3) (l3:=l - k1 - k3) (c3:=c2 - k3) (n4:=0) (o4:=aT (aT o2 c2 k3) (c2 - k3) k4) (l4:=l - k1 - k3 - k4) (c4:=c2 - k3 - k4) (o5:=0) (l5:=0) (c5:=0) (o6:=0) (l6:=0) (c6:=0) (p:=bt t) (a1:=(t.map (Value.int .u8)).toArray) (a2:=#[]) (f':=f4)) ?_) (bad hf4 hE)
    simp only [af]
    repeat' apply And.intro
    all_goals first | exact True.intro | with_reducible assumption | with_reducible rfl | rfl
  ·obtain ⟨k5,hk0,hkl,rfl,hnm,P5,A5,T5,hlc5,_⟩:=gU pY (T:=TG) T4 hlc4 (m:=IntKind.u64.wrap (4096:Int)) (mm:=4096) (by decide) (by decide) hn
   have hw:=lK hnm (by decide)
   have hdl:=T5.bx.len
   have a1:rr TG (0,0) 0 (IntKind.i64.wrap (n:Int)) (l - k1 - k3 - k4 - k5) (c2 - k3 - k4 - k5):=⟨rfl,rfl,rfl,by rw [hw];omega,hlc5⟩
   have a1':aT (aT (aT o2 c2 k3) (c2 - k3) k4) (c2 - k3 - k4) k5≤xs.length:=by have:=T5.ob;omega
   cases hc:(bw (bt t) (v:Int) (0:Int) (0:Nat)==(0:Int))
   ·have e3:(!bw (bt t) (v:Int) (0:Int) (0:Nat)==(0:Int))=true:=e9 hc
    refine cj hK rfl bz hk (ah (Kz (o:=o) (l:=l) (c:=c) (xs:=xs) (n1:=n1) (o1:=o1) (l1:=l1) (c1:=c1) (n2:=v) (o2:=o2) (l2:=l - k1) (c2:=c2) (n3:=1) (o3:=aT o2 c2 k3) (l3:=l - k1 - k3) (c3:=c2 - k3) (n4:=n) (o4:=aT (aT o2 c2 k3) (c2 - k3) k4) (l4:=l - k1 - k3 - k4) (c4:=c2 - k3 - k4) (o5:=aT (aT (aT o2 c2 k3) (c2 - k3) k4) (c2 - k3 - k4) k5) (l5:=l - k1 - k3 - k4 - k5) (c5:=c2 - k3 - k4 - k5) (o6:=0) (l6:=0) (c6:=0) (p:=bt t) (a1:=(t.map (Value.int .u8)).toArray) (a2:=#[]) (f':=0)) ?_) (bad (f':=11) (by decide) hE)
    simp only [af]
    repeat' apply And.intro
    all_goals first | exact True.intro | with_reducible assumption | with_reducible rfl | rfl
   ·have e3:(!bw (bt t) (v:Int) (0:Int) (0:Nat)==(0:Int))=false:=e9 hc
    refine cj hK rfl bz hk (ah (K3 (o:=o) (l:=l) (c:=c) (xs:=xs) (n1:=n1) (o1:=o1) (l1:=l1) (c1:=c1) (n2:=v) (o2:=o2) (l2:=l - k1) (c2:=c2) (n3:=1) (o3:=aT o2 c2 k3) (l3:=l - k1 - k3) (c3:=c2 - k3) (n4:=n) (o4:=aT (aT o2 c2 k3) (c2 - k3) k4) (l4:=l - k1 - k3 - k4) (c4:=c2 - k3 - k4) (o5:=aT (aT (aT o2 c2 k3) (c2 - k3) k4) (c2 - k3 - k4) k5) (l5:=l - k1 - k3 - k4 - k5) (c5:=c2 - k3 - k4 - k5) (o6:=0) (l6:=0) (c6:=0) (p:=bt t) (a1:=(t.map (Value.int .u8)).toArray) (a2:=#[]) (f':=0)) ?_) (bad (f':=11) (by decide) hE)
    simp only [af]
    repeat' apply And.intro
    all_goals first | exact True.intro | with_reducible assumption | with_reducible rfl | rfl
 subst hf4
 obtain ⟨n5,k5,o5,l5,c5,o6,l6,c6,P5,⟨K5,K6⟩,C5,T6,hlc6,hz5,hk5l,hk50,rfl,A6,hn5,hzd,hn5m,p5⟩:=vt T4 hlc4 (m:=IntKind.u64.wrap (4096:Int)) (mm:=4096) (by decide) (by decide) h4
 have AB:lC o l (k1+(k3+k4)+k5) o6:=AA.trans (by rw [← hl4];exact A6) (by omega)
 have hd6:z5=zs.drop (k1+(k3+k4)+k5):=by rw [hz5,hd4,List.drop_drop]
 have hl6:l - k1 - k3 - k4 - k5=l - (k1+(k3+k4)+k5):=by omega
 have hR:=qh h1 h2 h3 h4
 have hcl2:(List.map SV.v (d.map (Value.int .u8)).toArray.toList).all ae=true:=gj d
 by_cases hc:bw (bt t) v 1 d.length=0
 ·have e0:(!bw (bt t) (v:Int) (IntKind.i64.wrap ((1:Nat):Int)) n5==(0:Int))=false:=by rw [hw,hn5];rw [show ((1:Nat):Int)=1 from rfl,hc];rfl
  refine G6 hK rfl bz hk (ah (MP (o:=o) (l:=l) (c:=c) (xs:=xs) (n1:=n1) (o1:=o1) (l1:=l1) (c1:=c1) (n2:=v) (o2:=o2) (l2:=l - k1) (c2:=c2) (n3:=1) (o3:=aT o2 c2 k3) (l3:=l - k1 - k3) (c3:=c2 - k3) (n4:=n5) (o4:=aT (aT o2 c2 k3) (c2 - k3) k4) (l4:=l - k1 - k3 - k4) (c4:=c2 - k3 - k4) (o5:=o5) (l5:=l5) (c5:=c5) (o6:=o6) (l6:=l - k1 - k3 - k4 - k5) (c6:=c6) (p:=bt t) (a1:=(t.map (Value.int .u8)).toArray) (a2:=(d.map (Value.int .u8)).toArray) (f':=0)) ?_) fun w' ν y ob b2 ob2 hν0 hν1 hv hA hob hor hb2 hob2 hor2 hn2=>?_
  ·simp only [af]
   repeat' apply And.intro
   all_goals first | exact True.intro | with_reducible assumption | with_reducible rfl | rfl
  ·obtain ⟨g,rfl,hg⟩:=VR.aW.1 hv
   obtain ⟨g1,g,rfl,u1,hg⟩:=hg.cons_inv
   obtain ⟨g2,g,rfl,u2,hg⟩:=hg.cons_inv
   obtain ⟨g3,g,rfl,u3,hg⟩:=hg.cons_inv
   obtain ⟨g4,g,rfl,u4,hg⟩:=hg.cons_inv
   obtain rfl:=hg.aq
   obtain rfl:=VR.ab.1 u1
   obtain rfl:=VR.ab.1 u2
   obtain rfl:=VR.ab.1 u3
   have hNS:=eZ.qR u4 hb2 hob2 hor2 hn2 (ys:=d.map (Value.int .u8)) fun zs hz=>qt hz
   rw [hn5] at hNS
   refine ⟨hA,.inl ⟨bt t,v,1,d,_,k1+(k3+k4)+k5,o6,c6,?_,by omega,by omega,rfl,by rw [hob,en hν1 hor,hl6],by omega,AB,pI h1 h2 h3 p2 p3 p4 p5,.inr ⟨rfl,hNS⟩⟩⟩
   rw [hR,jh,if_pos (by exact hc),hd6]
 ·have e0:(!bw (bt t) (v:Int) (IntKind.i64.wrap ((1:Nat):Int)) n5==(0:Int))=true:=by rw [hw,hn5];simpa using hc
  refine cj hK rfl bz hk (ah (MY (o:=o) (l:=l) (c:=c) (xs:=xs) (n1:=n1) (o1:=o1) (l1:=l1) (c1:=c1) (n2:=v) (o2:=o2) (l2:=l - k1) (c2:=c2) (n3:=1) (o3:=aT o2 c2 k3) (l3:=l - k1 - k3) (c3:=c2 - k3) (n4:=n5) (o4:=aT (aT o2 c2 k3) (c2 - k3) k4) (l4:=l - k1 - k3 - k4) (c4:=c2 - k3 - k4) (o5:=o5) (l5:=l5) (c5:=c5) (o6:=o6) (l6:=l - k1 - k3 - k4 - k5) (c6:=c6) (p:=bt t) (a1:=(t.map (Value.int .u8)).toArray) (a2:=(d.map (Value.int .u8)).toArray) (f':=0)) ?_) (bad (f':=2) (by decide) (by rw [hR,jh,if_neg (by exact hc)]))
  simp only [af]
  repeat' apply And.intro
  all_goals first | exact True.intro | with_reducible assumption | with_reducible rfl | rfl
end
end ez
end paths
end Go.Proofs.YtcbokmadfcedaaaGreatDoor
set_option linter.unusedSimpArgs false
set_option linter.unusedVariables false
set_option maxRecDepth 100000
namespace Go.Proofs.YtcbokmadfcedaaaGreatDoor
open Go Go.Rx Go.RowKit Go.Proofs
namespace paths
namespace ez
open eye (lkB numR numR_cons u64_in)
structure Src where
 Z:List Int
 blk:Nat
 o:Nat
structure zB (S:Src):Prop where
 oE:∀ z∈S.Z,0≤z∧z<256
 dF:S.Z.length≤140737488355328
def XS (S:Src) (w:World):Prop:=MX w∧BytesIn w S.blk S.o S.Z∧∃ cs fz,w.heap[S.blk]?=some (.cells cs 5 fz)
structure mf (S:Src) (oo l c:Nat) (zs:List Int):Prop where
 ok:zB S
 lc:l≤c
 ex:∃ kk,kk≤S.Z.length∧zs=S.Z.drop kk∧l=S.Z.length - kk∧lC S.o S.Z.length kk oo
section
variable {S:Src} {oo l c:Nat} {zs:List Int}
theorem mf.len (h:mf S oo l c zs):zs.length=l:=by
 obtain ⟨_,_,kk,h1,rfl,rfl,_⟩:=h
 rw [List.length_drop]
theorem mf.dF (h:mf S oo l c zs):l≤140737488355328:=by
 obtain ⟨h0,_,kk,h1,rfl,rfl,_⟩:=h
 have:=h0.dF;omega
theorem mf.oE (h:mf S oo l c zs):∀ z∈zs,0≤z∧z<256:=by
 obtain ⟨h0,_,kk,h1,rfl,rfl,_⟩:=h
 exact fun z hz=>h0.oE z (List.mem_of_mem_drop hz)
theorem BytesIn.size {w:World} {blk o:Nat} {zs:List Int} (h:BytesIn w blk o zs):∃ cs e fz,w.heap[blk]?=some (.cells cs e fz)∧o+zs.length≤cs.size:=by
 obtain ⟨cs,e,fz,h1,h2,h3⟩:=h
 refine ⟨cs,e,fz,h1,?_⟩
 cases hn:zs.length with
 | zero=>omega
 | succ n=>
  have hlt:n<zs.length:=by omega
  have:=h3 n (.int .u8 zs[n]) (by rw [List.getElem?_map,List.getElem?_eq_getElem hlt];rfl)
  have:=(Array.getElem?_eq_some_iff.1 this).1
  omega
theorem mf.bytes (h:mf S oo l c zs) {w:World} (hX:XS S w):BytesIn w S.blk oo zs:=by
 obtain ⟨h0,_,kk,h1,rfl,rfl,ha⟩:=h
 obtain ⟨cs',e',fz',q1,q2⟩:=hX.2.1.size
 obtain ⟨cs,e,fz,p1,p2,p3⟩:=hX.2.1
 rw [q1] at p1;cases p1
 refine ⟨cs',e',fz',q1,?_,fun k v hk=>?_⟩
 ·unfold lC at ha;omega
 ·rw [List.getElem?_map,List.getElem?_drop] at hk
  have hlt:kk+k<S.Z.length:=by
   by_cases h:kk+k<S.Z.length
   ·exact h
   ·rw [List.getElem?_eq_none (by omega)] at hk;cases hk
  have:=p3 (kk+k) v (by rw [List.getElem?_map];exact hk)
  rcases ha with rfl | ⟨rfl,_,_⟩
  ·rw [Nat.add_assoc];exact this
  ·omega
theorem mf.step (h:mf S oo l c zs) {k o' c':Nat} (hk:k≤l) (ha:lC oo l k o') (hc:l - k≤c'):mf S o' (l - k) c' (zs.drop k):=by
 obtain ⟨h0,_,kk,h1,rfl,rfl,hb⟩:=h
 exact ⟨h0,hc,kk+k,by omega,by rw [List.drop_drop],by omega,hb.trans ha (by omega)⟩
theorem mf.start (h:zB S) (hlc:S.Z.length≤c):mf S S.o S.Z.length c S.Z:=⟨h,hlc,0,Nat.zero_le _,rfl,rfl,.inl rfl⟩
end
structure nL (S:Src) (T:TypeId) (adv:Nat→Nat→Nat→Nat) (e:TypeId) (z:Nat × Nat) (f m:Int) (a:Option Addr) (l c:Nat) (n:Int) (sl:Value):Prop where
 ty:e=T
 fz:z=(0,0)
 f0:f=0
 ex:∃ (oo mm nn k:Nat) (zs:List Int),a=some ⟨S.blk,oo,none⟩∧mf S oo l c zs∧m=mm∧mm<18446744073709551616∧n=nn∧k≤l∧numR mm zs=(nn,0,zs.drop k)∧sl=.slice (some ⟨S.blk,adv oo c k,none⟩) (l - k) (c - k)
structure ja (S:Src) (T:TypeId) (e:TypeId) (z:Nat × Nat) (f m:Int) (a:Option Addr) (l c:Nat) (f':Int):Prop where
 ty:e=T
 fz:z=(0,0)
 f0:f=0
 ex:∃ (oo mm:Nat) (zs:List Int),a=some ⟨S.blk,oo,none⟩∧mf S oo l c zs∧m=mm∧mm<18446744073709551616∧numR mm zs=(0,f',[])∧f'≠0
structure pJ (T:TypeId) (e:TypeId) (z:Nat × Nat) (f m:Int) (a:Option Addr) (l c:Nat):Prop where
 ty:e=T
 fz:z=(0,0)
 f0:f≠0
 a0:a=none
 l0:l=0
 c0:c=0
 m0:0≤m
def oY (S:Src) (T:TypeId) (adv:Nat→Nat→Nat→Nat):Sum:=fun args s=>match args with
 | [.ptr j 0,.v (.int .u64 m)]=>match s.look j with
  | some (.row [.v (.slice a l c),.v (.int .i64 f)] e z none,true)=>match s.orc s.dc with
   | some (.cells [.v (.int .u64 n),.v sl])=>some (.v (.int .u64 n),(s.dw (nL S T adv e z f m a l c n sl)).put j (.row [.v sl,.v (.int .i64 0)] e z none))
   | some (.cells [.v (.int .i64 f')])=>some (.v (.int .u64 0),(s.dw (ja S T e z f m a l c f')).put j (.row [.v (.slice none 0 0),.v (.int .i64 f')] e z none))
   | some (.b true)=>some (.v (.int .u64 0),s.dw (pJ T e z f m a l c))
   | _=>none
  | _=>none
 | _=>none
theorem yi {S:Src} {w:World} (hX:XS S w) {T:TypeId} (hT:T≠5) {b:Nat} {a:Option Addr} {l c:Nat} {f:Int} (h:w.heap[b]?=some (eO T a l c f)):S.blk≠b:=by
 rintro rfl
 obtain ⟨_,_,cs,fz,hq⟩:=hX
 rw [hq] at h
 have:Obj.cells cs 5 fz=eO T a l c f:=Option.some.inj h
 unfold eO at this
 cases this
 exact hT rfl
theorem Reads.HP {S:Src} {g:FuncId} {T:TypeId} {adv:Nat→Nat→Nat→Nat} (h:Reads Tryz.prog g T adv) (hT:T≠5):jI Tryz.prog (XS S) (g,oY S T adv):=by
 refine ⟨h.fn,fun args x s s' hx ob=>?_⟩
 dsimp only at hx
 unfold oY at hx
 split at hx
 ·rename_i j m
  split at hx
  ·rename_i a l c f e z hlj
   have key:∀ (oo mm:Nat) (zs:List Int),e=T→z=(0,0)→f=0→a=some ⟨S.blk,oo,none⟩→mf S oo l c zs→mm<18446744073709551616→∀ (ν:aA) (M:Own) (w0 w:World),HR ν M w0 s w→XS S w→∃ b:Nat × Nat,ν j=some b∧Calls Tryz.prog g #[.pointer (some ⟨b.1,0,none⟩),.int .u64 mm] w (FK T adv w b.1 S.blk oo l c mm zs):=by
    intro oo mm zs he hz hf ha hE hm ν M w0 w hr hX
    subst he hz hf ha
    obtain ⟨hj1,hj2,b,obj,hb,hobj,horj,_⟩:=hr.look hlj
    rw [told_plain horj] at hobj
    exact ⟨b,hb,h.well hobj (hE.bytes hX) hE.len hE.lc hE.dF (yi hX hT hobj) hE.oE hm⟩
   split at hx
   ·rename_i n sl _
    cases hx
    obtain ⟨ob0,hP⟩:s.ob∧nL S T adv e z f m a l c n sl:=⟨ob.1,ob.2⟩
    obtain ⟨he,hz,hf,oo,mm,nn,k,zs,ha',hE,rfl,hm,rfl,hkl,hnum,rfl⟩:=hP
    refine ⟨ob0,fun ν M w0 w a1 hr hX ha=>?_⟩
    obtain ⟨y1,as1,rfl,q1,ha2⟩:=ha.cons_inv
    obtain ⟨y2,as2,rfl,q2,ha3⟩:=ha2.cons_inv
    obtain rfl:=ha3.aq
    obtain ⟨b,hb,rfl⟩:=VR.aw.1 q1
    obtain rfl:=VR.ab.1 q2
    obtain ⟨b',hb',hC⟩:=key oo mm zs he hz hf ha' hE hm ν M w0 w hr hX
    rw [hb] at hb';cases hb'
    subst he hz hf ha'
    refine hC.mono fun e w' ⟨hA,hres⟩=>?_
    rcases hres with ⟨n',k',rfl,_,_,hk',hn',hw'⟩ | ⟨f',hf',_,hn',_⟩
    ·rw [hnum] at hn'
     obtain ⟨rfl,hdr⟩:nn=n'∧zs.drop k=zs.drop k':=by simpa using hn'
     have hkk:k=k':=by
      have:=congrArg List.length hdr
      rw [List.length_drop,List.length_drop,hE.len] at this
      omega
     subst hkk
     exact ⟨_,rfl,.jn (s.dw _) j _ _ b _ (SH.aH _ _) hlj rfl hb hw' ⟨[.slice (some ⟨S.blk,adv oo c k,none⟩) (l - k) (c - k),.int .i64 0],[],rfl,aj.cons (VR.ab.2 rfl) (aj.cons (VR.ab.2 rfl) aj.nil),rfl⟩ hA.but (VR.ab.2 rfl)⟩
    ·rw [hnum] at hn'
     have:(0:Int)=f':=by simp only [Prod.mk.injEq] at hn';exact hn'.2.1
     exact absurd this.symm hf'
   ·rename_i f' _
    cases hx
    obtain ⟨ob0,hP⟩:s.ob∧ja S T e z f m a l c f':=⟨ob.1,ob.2⟩
    obtain ⟨he,hz,hf,oo,mm,zs,ha',hE,rfl,hm,hnum,hf'⟩:=hP
    refine ⟨ob0,fun ν M w0 w a1 hr hX ha=>?_⟩
    obtain ⟨y1,as1,rfl,q1,ha2⟩:=ha.cons_inv
    obtain ⟨y2,as2,rfl,q2,ha3⟩:=ha2.cons_inv
    obtain rfl:=ha3.aq
    obtain ⟨b,hb,rfl⟩:=VR.aw.1 q1
    obtain rfl:=VR.ab.1 q2
    obtain ⟨b',hb',hC⟩:=key oo mm zs he hz hf ha' hE hm ν M w0 w hr hX
    rw [hb] at hb';cases hb'
    subst he hz hf ha'
    refine hC.mono fun e w' ⟨hA,hres⟩=>?_
    rcases hres with ⟨n',k',_,_,_,_,hn',_⟩ | ⟨f'',_,rfl,hn',hw'⟩
    ·rw [hnum] at hn'
     have:f'=(0:Int):=by simp only [Prod.mk.injEq] at hn';exact hn'.2.1
     exact absurd this hf'
    ·rw [hnum] at hn'
     obtain rfl:f'=f'':=by simp only [Prod.mk.injEq] at hn';exact hn'.2.1
     exact ⟨_,rfl,.jn (s.dw _) j _ _ b _ (SH.aH _ _) hlj rfl hb hw' ⟨[.slice none 0 0,.int .i64 f'],[],rfl,aj.cons (VR.ab.2 rfl) (aj.cons (VR.ab.2 rfl) aj.nil),rfl⟩ hA.but (VR.ab.2 rfl)⟩
   ·cases hx
    obtain ⟨ob0,hP⟩:s.ob∧pJ T e z f m a l c:=⟨ob.1,ob.2⟩
    obtain ⟨rfl,rfl,hf,rfl,rfl,rfl,hm0⟩:=hP
    refine ⟨ob0,fun ν M w0 w a1 hr hX ha=>?_⟩
    obtain ⟨y1,as1,rfl,q1,ha2⟩:=ha.cons_inv
    obtain ⟨y2,as2,rfl,q2,ha3⟩:=ha2.cons_inv
    obtain rfl:=ha3.aq
    obtain ⟨b,hb,rfl⟩:=VR.aw.1 q1
    obtain rfl:=VR.ab.1 q2
    obtain ⟨hj1,hj2,b',obj,hb',hobj,horj,_⟩:=hr.look hlj
    rw [hb] at hb';cases hb'
    rw [told_plain horj] at hobj
    exact (h.bad hf hm0 hobj).mono fun e w' ⟨hB,he⟩=>⟨_,he,.old hB (.same (SH.aH _ _) (VR.ab.2 rfl))⟩
   ·cases hx
  ·cases hx
 ·cases hx
structure q9 (S:Src) (e:TypeId) (z:Nat × Nat) (f:Int) (a:Option Addr) (l c:Nat) (x:Array Value) (sl:Value):Prop where
 ty:e=TG
 fz:z=(0,0)
 f0:f=0
 ex:∃ (oo v k k2 o' c':Nat) (zs:List Int) (p:ByteArray),a=some ⟨S.blk,oo,none⟩∧mf S oo l c zs∧dT zs=(some (p,v,k,[]),0,zs.drop k2)∧k≠1∧k2≤l∧(o',c')=eH aT zs oo c∧x=#[.string p,.int .u64 v,.int .i64 k,.slice none 0 0]∧sl=.slice (some ⟨S.blk,o',none⟩) (l - k2) c'
structure iX (S:Src) (e:TypeId) (z:Nat × Nat) (f:Int) (a:Option Addr) (l c:Nat) (p:ByteArray) (v:Int) (arr:Array Value) (sl:Value):Prop where
 ty:e=TG
 fz:z=(0,0)
 f0:f=0
 ex:∃ (oo vv k2 o' c':Nat) (zs d:List Int),a=some ⟨S.blk,oo,none⟩∧mf S oo l c zs∧dT zs=(some (p,vv,1,d),0,zs.drop k2)∧k2≤l∧(o',c')=eH aT zs oo c∧v=vv∧arr=(d.map (Value.int .u8)).toArray∧sl=.slice (some ⟨S.blk,o',none⟩) (l - k2) c'
structure ix (S:Src) (T:TypeId) (e:TypeId) (z:Nat × Nat) (f:Int) (a:Option Addr) (l c:Nat) (f':Int):Prop where
 ty:e=T
 fz:z=(0,0)
 f0:f=0
 ex:∃ (oo:Nat) (zs:List Int),a=some ⟨S.blk,oo,none⟩∧mf S oo l c zs∧dT zs=(none,f',[])∧f'≠0
def uj (S:Src):Sum:=fun args s=>match args with
 | [.ptr j 0]=>match s.look j with
  | some (.row [.v (.slice a l c),.v (.int .i64 f)] e z none,true)=>match s.orc s.dc with
   | some (.cells [.v (.agg x),.v sl])=>some (.v (.agg x),(s.dw (q9 S e z f a l c x sl)).put j (.row [.v sl,.v (.int .i64 0)] e z none))
   | some (.cells [.v (.string p),.v (.int .u64 v),.v (.agg arr),.v sl])=>(cC (.row (arr.toList.map SV.v) 5 (0,0) (some 1)) ((s.dw (iX S e z f a l c p v arr sl)).put j (.row [.v sl,.v (.int .i64 0)] e z none))).map fun r=>(.agg [.v (.string p),.v (.int .u64 v),.v (.int .i64 1),.sl r.1 0 arr.size none],r.2)
   | some (.cells [.v (.int .i64 f')])=>some (.v PE,(s.dw (ix S TG e z f a l c f')).put j (.row [.v (.slice none 0 0),.v (.int .i64 f')] e z none))
   | _=>none
  | _=>none
 | _=>none
theorem Gn:TG≠5:=by decide
theorem F3:TE≠5:=by decide
theorem qw {zs:List Int} {l k k':Nat} (hl:zs.length=l) (h1:k≤l) (h2:k'≤l) (h:zs.drop k=zs.drop k'):k=k':=by
 have:=congrArg List.length h
 rw [List.length_drop,List.length_drop,hl] at this
 omega
theorem Cj {S:Src}:jI Tryz.prog (XS S) (126,uj S):=by
 refine ⟨⟨_,Tryz.func126,by kernel_rfl,by kernel_rfl⟩,fun args x s s' hx ob=>?_⟩
 dsimp only at hx
 unfold uj at hx
 split at hx
 ·rename_i j
  split at hx
  ·rename_i a l c f e z hlj
   have key:∀ (oo:Nat) (zs:List Int),e=TG→z=(0,0)→f=0→a=some ⟨S.blk,oo,none⟩→mf S oo l c zs→∀ (ν:aA) (M:Own) (w0 w:World),HR ν M w0 s w→XS S w→∃ b:Nat × Nat,ν j=some b∧Calls Tryz.prog 126 #[.pointer (some ⟨b.1,0,none⟩)] w (JT w b.1 S.blk oo l c zs):=by
    intro oo zs he hz hf ha hE ν M w0 w hr hX
    subst he hz hf ha
    obtain ⟨hj1,hj2,b,obj,hb,hobj,horj,_⟩:=hr.look hlj
    rw [told_plain horj] at hobj
    exact ⟨b,hb,wI hX.1 hobj (hE.bytes hX) hE.len hE.lc hE.dF (yi hX Gn hobj) hE.oE⟩
   split at hx
   ·rename_i xa sl _
    cases hx
    obtain ⟨ob0,hP⟩:s.ob∧q9 S e z f a l c xa sl:=⟨ob.1,ob.2⟩
    obtain ⟨he,hz,hf,oo,v,k,k2,o',c',zs,p,ha',hE,hent,hk1,hkl,hpos,rfl,rfl⟩:=hP
    refine ⟨ob0,fun ν M w0 w a1 hr hX ha=>?_⟩
    obtain ⟨y1,as1,rfl,q1,ha2⟩:=ha.cons_inv
    obtain rfl:=ha2.aq
    obtain ⟨b,hb,rfl⟩:=VR.aw.1 q1
    obtain ⟨b',hb',hC⟩:=key oo zs he hz hf ha' hE ν M w0 w hr hX
    rw [hb] at hb';cases hb'
    subst he hz hf ha'
    refine hC.mono fun e w' ⟨hA,hres⟩=>?_
    rcases hres with ⟨p',v',k',d',y',k2',o'',c'',hn',_,hk2',rfl,hw',_,_,hpos',hy⟩ | ⟨f',hf',hn',_⟩
    ·rw [hent] at hn'
     simp only [Prod.mk.injEq,Option.some.injEq,true_and] at hn'
     obtain ⟨⟨rfl,rfl,rfl,rfl⟩,hdr⟩:=hn'
     obtain rfl:=qw hE.len hkl hk2' hdr
     rw [← hpos] at hpos'
     cases hpos'
     rcases hy with ⟨_,rfl,_⟩ | ⟨hk,_⟩
     ·exact ⟨_,rfl,.jn (s.dw _) j _ _ b _ (SH.aH _ _) hlj rfl hb hw' ⟨[.slice (some ⟨S.blk,o',none⟩) (l - k2) c',.int .i64 0],[],rfl,aj.cons (VR.ab.2 rfl) (aj.cons (VR.ab.2 rfl) aj.nil),rfl⟩ hA.but (VR.ab.2 rfl)⟩
     ·exact absurd hk hk1
    ·rw [hent] at hn'
     cases hn'
   ·rename_i p v arr sl _
    obtain ⟨⟨nx,s1⟩,hn,hx⟩:=Option.map_eq_some_iff.1 hx
    cases hx
    unfold cC at hn
    generalize hs2:(s.dw (iX S e z f a l c p v arr sl)).put j (.row [.v sl,.v (.int .i64 0)] e z none)=s2 at hn
    cases hroom:s2.room
    ·rw [hroom] at hn;cases hn
    rw [hroom] at hn
    simp only [cond_true] at hn
    cases hn
    have ob2:s2.ob:=ob
    rw [← hs2] at ob2
    obtain ⟨ob0,hP⟩:s.ob∧iX S e z f a l c p v arr sl:=⟨ob2.1,ob2.2⟩
    obtain ⟨he,hz,hf,oo,vv,k2,o',c',zs,d,ha',hE,hent,hkl,hpos,rfl,rfl,rfl⟩:=hP
    refine ⟨ob0,fun ν M w0 w a1 hr hX ha=>?_⟩
    obtain ⟨y1,as1,rfl,q1,ha2⟩:=ha.cons_inv
    obtain rfl:=ha2.aq
    obtain ⟨b,hb,rfl⟩:=VR.aw.1 q1
    obtain ⟨b',hb',hC⟩:=key oo zs he hz hf ha' hE ν M w0 w hr hX
    rw [hb] at hb';cases hb'
    subst he hz hf ha'
    refine hC.mono fun e w' ⟨hA,hres⟩=>?_
    rcases hres with ⟨p',v',k',d',y',k2',o'',c'',hn',_,hk2',rfl,hw',_,_,hpos',hy⟩ | ⟨f',hf',hn',_⟩
    ·rw [hent] at hn'
     simp only [Prod.mk.injEq,Option.some.injEq,true_and] at hn'
     obtain ⟨⟨rfl,rfl,rfl,rfl⟩,hdr⟩:=hn'
     obtain rfl:=qw hE.len hkl hk2' hdr
     rw [← hpos] at hpos'
     cases hpos'
     rcases hy with ⟨hk,_⟩ | ⟨_,g,cap,rest,rfl,hg,hnc,hh,hsz⟩
     ·exact absurd rfl hk
     ·have hd2:s2.nx=s.nx:=by rw [← hs2];rfl
      have hdd:s2.d=s.d:=by rw [← hs2];rfl
      have hfr:ν s2.nx=none:=hr.fresh _ (by rw [hd2];exact Nat.le_refl _)
      have hlt:b.1<w.heap.size:=by
       obtain ⟨_,_,b1,o1,hb1,ho1,_⟩:=hr.look hlj
       rw [hb] at hb1;cases hb1
       exact (Array.getElem?_eq_some_iff.1 ho1).1
      have hor:OR (ν.put s2.nx (g,cap)) s2.nx (.row (((d.map (Value.int .u8)).toArray.toList).map SV.v) 5 (0,0) (some 1)) (.cells ((d.map (Value.int .u8))++rest).toArray 5 (0,0)):=⟨d.map (Value.int .u8),rest,rfl,aj.lits _ _,by simp,(g,cap),aA.aU _ _ _,hsz⟩
      refine ⟨_,rfl,.gen (ν.put s2.nx (g,cap)) (aA.gY hfr _) (VR.aW.2 ⟨_,rfl,aj.cons (VR.ab.2 rfl) (aj.cons (VR.ab.2 rfl) (aj.cons (VR.ab.2 rfl) (aj.cons (VR.ay.2 ⟨(g,cap),aA.aU _ _ _,by simpa using hnc,by simp⟩) aj.nil)))⟩) fun M w0 h=>?_⟩
      have h1:HR ν M w0 s2 w':=by
       rw [← hs2]
       exact (h.same (SH.aH s _)).jn hlj hb ⟨[.slice (some ⟨S.blk,o',none⟩) (l - k2) c',.int .i64 0],[],rfl,aj.cons (VR.ab.2 rfl) (aj.cons (VR.ab.2 rfl) aj.nil),rfl⟩ hw' hA.but
      refine (h1.qf hroom (Nat.le_trans h.size hg) hh (fun i dd hi hx hd e=>?_) hor).2
      have hi:i<2 ^ s.d:=by rw [← hdd];exact hi
      have hlook:dd.1<w.heap.size:=by
       by_cases hij:i=j
       ·subst hij
        rw [hb] at hd;cases hd;exact hlt
       ·have hx:s2.H.get i≠none:=hx
        rw [← hs2] at hx
        have hx:(s.H.set j (some (.row [.v (.slice (some ⟨S.blk,o',none⟩) (l - k2) c'),.v (.int .i64 0)] TG (0,0) none,true))).get i≠none:=hx
        rw [Tr.ct h.full (h.look hlj).1 hi,if_neg hij] at hx
        cases hq:s.H.get i with
        | none=>exact absurd hq hx
        | some x=>
         obtain ⟨b1,o1,hb1,ho1,_⟩:=h.obj i hi x hq
         rw [hd] at hb1;cases hb1
         exact (Array.getElem?_eq_some_iff.1 ho1).1
      omega
    ·rw [hent] at hn'
     cases hn'
   ·rename_i f' _
    cases hx
    obtain ⟨ob0,hP⟩:s.ob∧ix S TG e z f a l c f':=⟨ob.1,ob.2⟩
    obtain ⟨he,hz,hf,oo,zs,ha',hE,hent,hf'⟩:=hP
    refine ⟨ob0,fun ν M w0 w a1 hr hX ha=>?_⟩
    obtain ⟨y1,as1,rfl,q1,ha2⟩:=ha.cons_inv
    obtain rfl:=ha2.aq
    obtain ⟨b,hb,rfl⟩:=VR.aw.1 q1
    obtain ⟨b',hb',hC⟩:=key oo zs he hz hf ha' hE ν M w0 w hr hX
    rw [hb] at hb';cases hb'
    subst he hz hf ha'
    refine hC.mono fun e w' ⟨hA,hres⟩=>?_
    rcases hres with ⟨p',v',k',d',y',k2',o'',c'',hn',_⟩ | ⟨f'',_,hn',rfl,hw'⟩
    ·rw [hent] at hn'
     cases hn'
    ·rw [hent] at hn'
     obtain rfl:f'=f'':=by simp only [Prod.mk.injEq] at hn';exact hn'.2.1
     exact ⟨_,rfl,.jn (s.dw _) j _ _ b _ (SH.aH _ _) hlj rfl hb hw' ⟨[.slice none 0 0,.int .i64 f'],[],rfl,aj.cons (VR.ab.2 rfl) (aj.cons (VR.ab.2 rfl) aj.nil),rfl⟩ hA.but (VR.ab.2 rfl)⟩
   ·cases hx
  ·cases hx
 ·cases hx
structure xC (S:Src) (e:TypeId) (z:Nat × Nat) (f:Int) (a:Option Addr) (l c:Nat) (x:Array Value) (sl:Value):Prop where
 ty:e=TE
 fz:z=(0,0)
 f0:f=0
 ex:∃ (oo v k k2 o' c':Nat) (zs d:List Int) (p:ByteArray) (y:Value),a=some ⟨S.blk,oo,none⟩∧mf S oo l c zs∧dT zs=(some (p,v,k,d),0,zs.drop k2)∧k2≤l∧(o',c')=eH aJ zs oo c∧x=#[.string p,.int .u64 v,.int .i64 k,y]∧sl=.slice (some ⟨S.blk,o',none⟩) (l - k2) c'∧((k≠1∧y=.slice none 0 0)∨(k=1∧y=.slice (some ⟨S.blk,(dO aJ zs oo c).1,none⟩) d.length (dO aJ zs oo c).2))
def tJ (S:Src):Sum:=fun args s=>match args with
 | [.ptr j 0]=>match s.look j with
  | some (.row [.v (.slice a l c),.v (.int .i64 f)] e z none,true)=>match s.orc s.dc with
   | some (.cells [.v (.agg x),.v sl])=>some (.v (.agg x),(s.dw (xC S e z f a l c x sl)).put j (.row [.v sl,.v (.int .i64 0)] e z none))
   | some (.cells [.v (.int .i64 f')])=>some (.v PE,(s.dw (ix S TE e z f a l c f')).put j (.row [.v (.slice none 0 0),.v (.int .i64 f')] e z none))
   | _=>none
  | _=>none
 | _=>none
theorem Dy {S:Src}:jI Tryz.prog (XS S) (94,tJ S):=by
 refine ⟨⟨_,Tryz.func94,by kernel_rfl,by kernel_rfl⟩,fun args x s s' hx ob=>?_⟩
 dsimp only at hx
 unfold tJ at hx
 split at hx
 ·rename_i j
  split at hx
  ·rename_i a l c f e z hlj
   have key:∀ (oo:Nat) (zs:List Int),e=TE→z=(0,0)→f=0→a=some ⟨S.blk,oo,none⟩→mf S oo l c zs→∀ (ν:aA) (M:Own) (w0 w:World),HR ν M w0 s w→XS S w→∃ b:Nat × Nat,ν j=some b∧Calls Tryz.prog 94 #[.pointer (some ⟨b.1,0,none⟩)] w (J0 w b.1 S.blk oo l c zs):=by
    intro oo zs he hz hf ha hE ν M w0 w hr hX
    subst he hz hf ha
    obtain ⟨hj1,hj2,b,obj,hb,hobj,horj,_⟩:=hr.look hlj
    rw [told_plain horj] at hobj
    exact ⟨b,hb,Au hobj (hE.bytes hX) hE.len hE.lc hE.dF (yi hX F3 hobj) hE.oE⟩
   split at hx
   ·rename_i xa sl _
    cases hx
    obtain ⟨ob0,hP⟩:s.ob∧xC S e z f a l c xa sl:=⟨ob.1,ob.2⟩
    obtain ⟨he,hz,hf,oo,v,k,k2,o',c',zs,d,p,y,ha',hE,hent,hkl,hpos,rfl,rfl,hyy⟩:=hP
    refine ⟨ob0,fun ν M w0 w a1 hr hX ha=>?_⟩
    obtain ⟨y1,as1,rfl,q1,ha2⟩:=ha.cons_inv
    obtain rfl:=ha2.aq
    obtain ⟨b,hb,rfl⟩:=VR.aw.1 q1
    obtain ⟨b',hb',hC⟩:=key oo zs he hz hf ha' hE ν M w0 w hr hX
    rw [hb] at hb';cases hb'
    subst he hz hf ha'
    refine hC.mono fun e w' ⟨hA,hres⟩=>?_
    rcases hres with ⟨p',v',k',d',y',k2',o'',c'',hn',_,hk2',rfl,hw',_,_,hpos',hy⟩ | ⟨f',hf',hn',_⟩
    ·rw [hent] at hn'
     simp only [Prod.mk.injEq,Option.some.injEq,true_and] at hn'
     obtain ⟨⟨rfl,rfl,rfl,rfl⟩,hdr⟩:=hn'
     obtain rfl:=qw hE.len hkl hk2' hdr
     rw [← hpos] at hpos'
     cases hpos'
     have hyv:y'=y:=by
      rcases hy with ⟨h1,rfl,_⟩ | ⟨h1,o2,c2,hdp,rfl,_⟩
      ·rcases hyy with ⟨_,rfl⟩ | ⟨h2,_⟩
       ·rfl
       ·exact absurd h2 h1
      ·rcases hyy with ⟨h2,_⟩ | ⟨_,rfl⟩
       ·exact absurd h1 h2
       ·rw [← hdp]
     subst hyv
     exact ⟨_,rfl,.jn (s.dw _) j _ _ b _ (SH.aH _ _) hlj rfl hb hw' ⟨[.slice (some ⟨S.blk,o',none⟩) (l - k2) c',.int .i64 0],[],rfl,aj.cons (VR.ab.2 rfl) (aj.cons (VR.ab.2 rfl) aj.nil),rfl⟩ hA.but (VR.ab.2 rfl)⟩
    ·rw [hent] at hn'
     cases hn'
   ·rename_i f' _
    cases hx
    obtain ⟨ob0,hP⟩:s.ob∧ix S TE e z f a l c f':=⟨ob.1,ob.2⟩
    obtain ⟨he,hz,hf,oo,zs,ha',hE,hent,hf'⟩:=hP
    refine ⟨ob0,fun ν M w0 w a1 hr hX ha=>?_⟩
    obtain ⟨y1,as1,rfl,q1,ha2⟩:=ha.cons_inv
    obtain rfl:=ha2.aq
    obtain ⟨b,hb,rfl⟩:=VR.aw.1 q1
    obtain ⟨b',hb',hC⟩:=key oo zs he hz hf ha' hE ν M w0 w hr hX
    rw [hb] at hb';cases hb'
    subst he hz hf ha'
    refine hC.mono fun e w' ⟨hA,hres⟩=>?_
    rcases hres with ⟨p',v',k',d',y',k2',o'',c'',hn',_⟩ | ⟨f'',_,hn',rfl,hw'⟩
    ·rw [hent] at hn'
     cases hn'
    ·rw [hent] at hn'
     obtain rfl:f'=f'':=by simp only [Prod.mk.injEq] at hn';exact hn'.2.1
     exact ⟨_,rfl,.jn (s.dw _) j _ _ b _ (SH.aH _ _) hlj rfl hb hw' ⟨[.slice none 0 0,.int .i64 f'],[],rfl,aj.cons (VR.ab.2 rfl) (aj.cons (VR.ab.2 rfl) aj.nil),rfl⟩ hA.but (VR.ab.2 rfl)⟩
   ·cases hx
  ·cases hx
 ·cases hx
end ez
end paths
end Go.Proofs.YtcbokmadfcedaaaGreatDoor
set_option linter.unusedSimpArgs false
set_option linter.unusedVariables false
set_option maxRecDepth 100000
namespace Go.Proofs.YtcbokmadfcedaaaGreatDoor
open Go Go.Rx Go.RowKit Go.Proofs
namespace paths
namespace ez
structure qI (xs:List SV) (e:TypeId) (z:Nat × Nat) (C n:Nat):Prop where
 ty:e=5
 fz:z=(0,0)
 c1:C=1
 ex:∃ ys:List Int,xs=(ys.map (Value.int .u8)).map SV.v∧n=ys.length∧ys.length≤140737488355328
def uu:Sum:=fun args s=>match args with
 | [.agg [.v (.string p),.v (.int .u64 v),.v (.int .i64 k),.sl j 0 n none]]=>match s.look j with
  | some (.row xs e z (some C),true)=>(cC (.row xs e z (some C)) (s.dw (qI xs e z C n))).map fun r=>(.agg [.v (.string p),.v (.int .u64 v),.v (.int .i64 k),.sl r.1 0 n none],r.2)
  | _=>none
 | _=>match gd args with
  | some [.agg x]=>match x.toList with
   | [.string p,.int .u64 v,.int .i64 k,.slice a l c]=>some (.agg [.v (.string p),.v (.int .u64 v),.v (.int .i64 k),.v (.slice none 0 0)],s.dw (a=none∧l=0∧c=0))
   | _=>none
  | _=>none
theorem Aa {w:World} {b n:Nat} {ys:List Int} {rest:List Value} (h:w.heap[b]?=some (.cells ((ys.map (Value.int .u8))++rest).toArray 5 (0,0))) (hn:n=ys.length) (dF:ys.length≤140737488355328):fW w (some ⟨b,0,none⟩) n ys:=by
 refine ⟨hn.symm,by omega,fun a ha i hi W' hW=>?_⟩
 cases ha
 have hlt:=(Array.getElem?_eq_some_iff.1 h).1
 have hadd:(⟨b,0,none⟩:Addr).add i=⟨b,i,none⟩:=by
  unfold Addr.add
  split
  ·rename_i h;subst h;rfl
  ·show (⟨b,0+i,none⟩:Addr)=_;rw [Nat.zero_add]
 have hi2:i<ys.length:=by omega
 rw [hadd]
 unfold World.cell?
 rw [hW b hlt,h]
 show (((ys.map (Value.int .u8))++rest).toArray)[i]?=_
 rw [List.getElem?_toArray,List.getElem?_append_left (by simpa using hi2),List.getElem?_map,List.getElem?_eq_getElem hi2,List.getD_eq_getElem?_getD,List.getElem?_eq_getElem hi2];rfl
theorem vW {X:World→Prop}:cF Tryz.prog X (104,uu):=by
 refine ⟨⟨_,Tryz.func104,by kernel_rfl,by kernel_rfl⟩,fun args x s s' hx ob=>?_⟩
 dsimp only at hx
 unfold uu at hx
 split at hx
 ·rename_i p v k j n
  split at hx
  ·rename_i xs e z C hlj
   obtain ⟨⟨nx,s1⟩,hn,hx⟩:=Option.map_eq_some_iff.1 hx
   cases hx
   unfold cC at hn
   cases hroom:(s.dw (qI xs e z C n)).room
   ·rw [hroom] at hn;cases hn
   rw [hroom] at hn
   simp only [cond_true] at hn
   cases hn
   obtain ⟨ob0,hP⟩:s.ob∧qI xs e z C n:=⟨ob.1,ob.2⟩
   obtain ⟨rfl,rfl,rfl,ys,rfl,rfl,dF⟩:=hP
   refine ⟨ob0,fun ν M w0 w a hr hX ha=>?_⟩
   obtain ⟨y1,as1,rfl,q1,ha2⟩:=ha.cons_inv
   obtain rfl:=ha2.aq
   obtain ⟨g,rfl,hg⟩:=VR.aW.1 q1
   obtain ⟨g1,g,rfl,u1,hg⟩:=hg.cons_inv
   obtain ⟨g2,g,rfl,u2,hg⟩:=hg.cons_inv
   obtain ⟨g3,g,rfl,u3,hg⟩:=hg.cons_inv
   obtain ⟨g4,g,rfl,u4,hg⟩:=hg.cons_inv
   obtain rfl:=hg.aq
   obtain rfl:=VR.ab.1 u1
   obtain rfl:=VR.ab.1 u2
   obtain rfl:=VR.ab.1 u3
   obtain ⟨b,hb,hle,rfl⟩:=VR.ay.1 u4
   obtain ⟨_,_,b',o,hb',ho,hor,_⟩:=hr.look hlj
   rw [hb] at hb';cases hb'
   obtain ⟨zs,rest,rfl,hz,hsz⟩:=hor
   obtain rfl:=qt hz
   have hC:=ou (w:=w) (x:=⟨p,v,k,some ⟨b.1,0,none⟩,ys.length,b.2 - 0⟩) (ys:=ys) (Aa ho rfl dF)
   refine hC.mono fun e w' ⟨hB,a,c,l,he,h⟩=>⟨hB,?_⟩
   rcases h with ⟨h,_⟩ | ⟨_,rfl,g,rfl,g',cap,rest',hq,hg,hnc,hh,hsz'⟩
   ·cases h
   ·cases hq
    refine ⟨_,he,.made (s.dw _) _ g c _ (SH.aH _ _) hroom rfl hg hh ⟨ys.map (Value.int .u8),rest',rfl,aj.lits _ _,by simp,(g,c),aA.aU _ _ _,hsz'⟩ (VR.aW.2 ⟨_,rfl,aj.cons (VR.ab.2 rfl) (aj.cons (VR.ab.2 rfl) (aj.cons (VR.ab.2 rfl) (aj.cons (VR.ay.2 ⟨(g,c),aA.aU _ _ _,by simpa using hnc,by simp⟩) aj.nil)))⟩)⟩
  ·cases hx
 ·split at hx
  ·rename_i xa hpl
   split at hx
   ·rename_i p v k a l c hxa
    cases hx
    obtain ⟨ob0,rfl,rfl,rfl⟩:s.ob∧a=none∧l=0∧c=0:=⟨ob.1,ob.2⟩
    refine ⟨ob0,fun ν M w0 w a hr hX ha=>?_⟩
    obtain rfl:=eF hpl ha
    obtain rfl:xa=#[.string p,.int .u64 v,.int .i64 k,.slice none 0 0]:=by cases xa;simpa using hxa
    have hC:=ou (w:=w) (x:=⟨p,v,k,none,0,0⟩) (ys:=[]) ⟨rfl,Nat.zero_le _,fun b h=>by cases h⟩
    refine hC.mono fun e w' ⟨hB,a,c,l,he,h⟩=>⟨hB,?_⟩
    rcases h with ⟨_,rfl,rfl,rfl⟩ | ⟨h,_⟩
    ·exact ⟨_,he,.same (SH.aH _ _) (VR.aW.2 ⟨_,rfl,aj.cons (VR.ab.2 rfl) (aj.cons (VR.ab.2 rfl) (aj.cons (VR.ab.2 rfl) (aj.cons (VR.ab.2 rfl) aj.nil)))⟩)⟩
    ·exact absurd rfl h
   ·cases hx
  ·cases hx
noncomputable def Km (S:Src):List (FuncId × Sum):=[(123,oY S TG aT),(126,uj S),(102,eD lH),(159,sW),(104,uu)]
noncomputable def fR (S:Src):Env:={ EP [] [] with sums:=fun f=>(Km S).lookup f }
noncomputable def wV (S:Src) (a:Option Addr) (l c:Nat):SM:=(aS (fR S) 90 [.v (.slice a l c)] (bc 6 0 0 [])).getD dx
def dS (T:TypeId) (a:Option Addr) (l c:Nat) (f:Int):Option (SO × Bool):=some (.row [.v (.slice a l c),.v (.int .i64 f)] T (0,0) none,true)
def oV (s:Int):Option (SO × Bool):=some (.row [.v (.int .u64 s),.v (.map none)] 122 (0,0) none,true)
def rF (s:Int):Option (SO × Bool):=some (.row [.v (.int .u64 s),.map 2] 122 (0,0) none,true)
def S0:Src:=⟨[],0,0⟩
def Je (v kk o1 l1 c1 o2 l2 c2:Nat) (S:Src):List (Nat × c9):=[(0,.cells [.v (.int .u64 v),.v (.slice (some ⟨S.blk,o1,none⟩) l1 c1)]),(2,.cells [.v (.int .u64 kk),.v (.slice (some ⟨S.blk,o2,none⟩) l2 c2)]),(1000,.b true)]
noncomputable def BY:List SI:=dC (fR S0) 2 400 (wV S0 none 0 0) (Je 0 0 0 0 0 0 0 0 S0)
noncomputable def ew (last:ByteArray) (n:Int):SF:={ fn:=90,tm:=gw 51 6 ([.aM,.aM,.aM,.aM,.ptr 0 0,.ptr 1 0,.v (.string last),.v (.int .i64 n)]++List.replicate 43 .aM),todo:=BY,defers:=[],ret:=false,kind:=.normal,ro:=none }
noncomputable def lT (n:Int):SF:={ fn:=90,tm:=gw 51 6 ([.aM,.aM,.aM,.aM,.ptr 0 0,.aM,.aM,.v (.int .i64 n)]++List.replicate 43 .aM),todo:=BY,defers:=[],ret:=false,kind:=.normal,ro:=none }
theorem N9 (S:Src) (a:Option Addr) (l c v kk o1 l1 c1 o2 l2 c2:Nat):reach (fR S) 2 400 (wV S a l c) (Je v kk o1 l1 c1 o2 l2 c2 S) [(0,0),(1,1)] [] (ew ⟨#[]⟩ (IntKind.i64.wrap kk)) 6 [dS TG (some ⟨S.blk,o2,none⟩) l2 c2 0,oV v]=[0=0,0=0,Value.string ⟨⟨[]⟩⟩=Value.string ⟨⟨[]⟩⟩,vZ (IntKind.i64.wrap (↑kk:Int))=vZ (IntKind.i64.wrap (↑kk:Int)),Value.slice (some { block:=S.2,off:=o2:Addr }) l2 c2=Value.slice (some { block:=S.2,off:=o2:Addr }) l2 c2,vZ 0=vZ 0,Value.int IntKind.u64 (↑v:Int)=Value.int IntKind.u64 (↑v:Int),Value.map none=Value.map none,nL S 247 aT 247 (0,0) 0 (IntKind.u64.wrap 256) (some { block:=S.2,off:=o1:Addr }) l1 c1 (↑kk:Int) (Value.slice (some { block:=S.2,off:=o2:Addr }) l2 c2),nL S 247 aT 247 (0,0) 0 1099511627776 a l c (↑v:Int) (Value.slice (some { block:=S.2,off:=o1:Addr }) l1 c1)]:=by kernel_rfl
theorem O8 (S:Src) (a:Option Addr) (l c v o1 l1 c1:Nat) (f':Int):reach (fR S) 2 400 (wV S a l c) [(0,.cells [.v (.int .u64 v),.v (.slice (some ⟨S.blk,o1,none⟩) l1 c1)]),(2,.cells [.v (.int .i64 f')]),(1000,.b true)] [(0,0)] [] (lT 0) 6 [dS TG none 0 0 f']=[0=0,vZ (IntKind.i64.wrap 0)=vZ 0,Value.slice none 0 0=Value.slice none 0 0,vZ f'=vZ f',ja S 247 247 (0,0) 0 (IntKind.u64.wrap 256) (some { block:=S.2,off:=o1:Addr }) l1 c1 f',nL S 247 aT 247 (0,0) 0 1099511627776 a l c (↑v:Int) (Value.slice (some { block:=S.2,off:=o1:Addr }) l1 c1)]:=by kernel_rfl
theorem OI (S:Src) (a:Option Addr) (l c:Nat) (f':Int):reach (fR S) 2 400 (wV S a l c) [(0,.cells [.v (.int .i64 f')]),(2,.b true),(1000,.b true)] [(0,0)] [] (lT 0) 6 [dS TG none 0 0 f']=[0=0,vZ (IntKind.i64.wrap 0)=vZ 0,Value.slice none 0 0=Value.slice none 0 0,vZ f'=vZ f',pJ 247 247 (0,0) f' (IntKind.u64.wrap 256) none 0 0,ja S 247 247 (0,0) 0 1099511627776 a l c f']:=by kernel_rfl
def IZ (s:Int):Option (SO × Bool):=some (.row [.v (.int .u64 s),.map 1] 122 (0,0) none,true)
theorem OF (S:Src) (l1 c1 o1 l2 c2 o2 v kk j born cl cl':Nat) (s n n' f':Int) (last p:ByteArray) (arr:Array Value) (f:aD) (es es':List (SV × SV × Nat)) (q:List SV) (b:Nat × Nat):reach (fR S) 2 700 (SM.at (ew ⟨#[]⟩ n) 6 [dS TG (some ⟨S.blk,o1,none⟩) l1 c1 0,oV s]) ([(0,.b true),(1,.b true),(3,.b true),(4,.b true),(6,.cells [.v (.agg #[.string p,.int .u64 v,.int .i64 kk,.slice none 0 0]),.v (.slice (some ⟨S.blk,o2,none⟩) l2 c2)]),(16,.b false),(1000,.b true)]) [(0,0),(1,1),(2,6)] [2] (ew p n') 6 [dS TG (some ⟨S.blk,o2,none⟩) l2 c2 0,rF s,fX es' cl']=[0=0,0=0,Value.string p=Value.string p,vZ (IntKind.i64.wrap (n - 1))=vZ n',Value.slice (some { block:=S.2,off:=o2:Addr }) l2 c2=Value.slice (some { block:=S.2,off:=o2:Addr }) l2 c2,vZ 0=vZ 0,Value.int IntKind.u64 s=Value.int IntKind.u64 s,1=cl',([]++[(SV.v (Value.string p),SV.agg [SV.v (Value.string p),SV.v (Value.int IntKind.u64 (v:Int)),SV.v (vZ (kk:Int)),SV.v (Value.slice none 0 0)],0)])=es',(es'.all fun e=>bo e.fst&&bo e.snd.fst)=true,(p==p)=true,(none:Option Addr)=none∧0=0∧0=0,(!bw p (↑v:Int) (↑kk:Int) 0==0)=false,p.size≤1000000000∧0≤(↑v:Int)∧(↑v:Int)<18446744073709551616,q9 S 247 (0,0) 0 (some { block:=S.2,off:=o1:Addr }) l1 c1 { toList:=[Value.string p,Value.int IntKind.u64 (↑v:Int),vZ (↑kk:Int),Value.slice none 0 0]:Array Value } (Value.slice (some { block:=S.2,off:=o2:Addr }) l2 c2),decide (n>0)=true,decide (n>0)=true,decide (n>0)=true,decide (n>0)=true]:=by kernel_rfl
theorem KG (S:Src) (l1 c1 o1 l2 c2 o2 v kk j born cl cl':Nat) (s n n' f':Int) (last p:ByteArray) (arr:Array Value) (f:aD) (es es':List (SV × SV × Nat)) (q:List SV) (b:Nat × Nat):iO (fR S) 2 700 (SM.at (ew ⟨#[]⟩ n) 6 [dS TG (some ⟨S.blk,o1,none⟩) l1 c1 0,oV s]) ([(0,.b true),(1,.b true),(3,.b true),(4,.b true),(6,.cells [.v (.string p),.v (.int .u64 v),.v (.agg arr),.v (.slice (some ⟨S.blk,o2,none⟩) l2 c2)]),(16,.b false),(1000,.b true)]) [(0,0),(1,1),(2,7)] [2] (ew p n') 6 [dS TG (some ⟨S.blk,o2,none⟩) l2 c2 0,rF s,fX es' cl'] 7 8 (.row (arr.toList.map SV.v) 5 (0,0) (some 1)) b=[List.map SV.v arr.toList=List.map SV.v arr.toList,(List.map SV.v arr.toList).all ae=true,0=0,0=0,Value.string p=Value.string p,vZ (IntKind.i64.wrap (n - 1))=vZ n',Value.slice (some { block:=S.2,off:=o2:Addr }) l2 c2=Value.slice (some { block:=S.2,off:=o2:Addr }) l2 c2,vZ 0=vZ 0,Value.int IntKind.u64 s=Value.int IntKind.u64 s,1=cl',fN 8 b ([]++[(SV.v (Value.string p),SV.agg [SV.v (Value.string p),SV.v (Value.int IntKind.u64 (v:Int)),SV.v (vZ 1),SV.sl 8 0 arr.size none],0)])=es',(es'.all fun e=>bo e.fst&&bo e.snd.fst)=true,(p==p)=true,qI (List.map SV.v arr.toList) 5 (0,0) 1 arr.toList.length,(!bw p (↑v:Int) 1 arr.toList.length==0)=false,p.size≤1000000000∧0≤(↑v:Int)∧(↑v:Int)<18446744073709551616,iX S 247 (0,0) 0 (some { block:=S.2,off:=o1:Addr }) l1 c1 p (↑v:Int) arr (Value.slice (some { block:=S.2,off:=o2:Addr }) l2 c2),decide (n>0)=true,decide (n>0)=true,decide (n>0)=true,decide (n>0)=true]:=by kernel_rfl
theorem Mk (S:Src) (l1 c1 o1 l2 c2 o2 v kk j born cl cl':Nat) (s n n' f':Int) (last p:ByteArray) (arr:Array Value) (f:aD) (es es':List (SV × SV × Nat)) (q:List SV) (b:Nat × Nat):reach (fR S) 2 700 (SM.at (ew last n) 6 [dS TG (some ⟨S.blk,o1,none⟩) l1 c1 0,rF s,fX es cl]) ([(0,.b true),(1,.b true),(3,.b true),(4,.b true),(6,.cells [.v (.agg #[.string p,.int .u64 v,.int .i64 kk,.slice none 0 0]),.v (.slice (some ⟨S.blk,o2,none⟩) l2 c2)]),(7,.b true),(8,.b true),(9,.b true),(10,.b true),(12,.b true),(13,.b true),(14,.b false),(17,.b false),(19,.lX),(33,.b false),(37,.lX),(1000,.b true)]) [(0,0),(1,1),(2,2)] [2] (ew p n') 6 [dS TG (some ⟨S.blk,o2,none⟩) l2 c2 0,rF s,fX es' cl']=[0=0,0=0,Value.string p=Value.string p,vZ (IntKind.i64.wrap (n - 1))=vZ n',Value.slice (some { block:=S.2,off:=o2:Addr }) l2 c2=Value.slice (some { block:=S.2,off:=o2:Addr }) l2 c2,vZ 0=vZ 0,Value.int IntKind.u64 s=Value.int IntKind.u64 s,cl+1=cl',(es++[(SV.v (Value.string p),SV.agg [SV.v (Value.string p),SV.v (Value.int IntKind.u64 (v:Int)),SV.v (vZ (kk:Int)),SV.v (Value.slice none 0 0)],cl)])=es',(es'.all fun e=>bo e.fst&&bo e.snd.fst)=true,∀ (e:SV × SV × Nat),e∈es→cQ p e.fst,(p==p)=true,(none:Option Addr)=none∧0=0∧0=0,decide ((↑es.length:Int)≥256)=false,∀ (e:SV × SV × Nat),e∈es→cQ p e.fst,(!bw p (↑v:Int) (↑kk:Int) 0==0)=false,p.size≤1000000000∧0≤(↑v:Int)∧(↑v:Int)<18446744073709551616,decide (bF last p≥0)=false,(!last.toList==(⟨⟨[]⟩⟩:ByteArray).toList)=true,(!last.toList==(⟨⟨[]⟩⟩:ByteArray).toList)=true,last.size≤1000000000∧p.size≤1000000000,(!last.toList==(⟨⟨[]⟩⟩:ByteArray).toList)=true,(!last.toList==(⟨⟨[]⟩⟩:ByteArray).toList)=true,(!last.toList==(⟨⟨[]⟩⟩:ByteArray).toList)=true,(!last.toList==(⟨⟨[]⟩⟩:ByteArray).toList)=true,q9 S 247 (0,0) 0 (some { block:=S.2,off:=o1:Addr }) l1 c1 { toList:=[Value.string p,Value.int IntKind.u64 (↑v:Int),vZ (↑kk:Int),Value.slice none 0 0]:Array Value } (Value.slice (some { block:=S.2,off:=o2:Addr }) l2 c2),decide (n>0)=true,decide (n>0)=true,decide (n>0)=true,decide (n>0)=true]:=by kernel_rfl
theorem JK (S:Src) (l1 c1 o1 l2 c2 o2 v kk j born cl cl':Nat) (s n n' f':Int) (last p:ByteArray) (arr:Array Value) (f:aD) (es es':List (SV × SV × Nat)) (q:List SV) (b:Nat × Nat):iO (fR S) 2 700 (SM.at (ew last n) 6 [dS TG (some ⟨S.blk,o1,none⟩) l1 c1 0,rF s,fX es cl]) ([(0,.b true),(1,.b true),(3,.b true),(4,.b true),(6,.cells [.v (.string p),.v (.int .u64 v),.v (.agg arr),.v (.slice (some ⟨S.blk,o2,none⟩) l2 c2)]),(7,.b true),(8,.b true),(9,.b true),(10,.b true),(12,.b true),(13,.b true),(14,.b false),(17,.b false),(19,.lX),(33,.b false),(37,.lX),(1000,.b true)]) [(0,0),(1,1),(2,2)] [2] (ew p n') 6 [dS TG (some ⟨S.blk,o2,none⟩) l2 c2 0,rF s,fX es' cl'] 2 8 (.row (arr.toList.map SV.v) 5 (0,0) (some 1)) b=[List.map SV.v arr.toList=List.map SV.v arr.toList,(List.map SV.v arr.toList).all ae=true,0=0,0=0,Value.string p=Value.string p,vZ (IntKind.i64.wrap (n - 1))=vZ n',Value.slice (some { block:=S.2,off:=o2:Addr }) l2 c2=Value.slice (some { block:=S.2,off:=o2:Addr }) l2 c2,vZ 0=vZ 0,Value.int IntKind.u64 s=Value.int IntKind.u64 s,cl+1=cl',fN 8 b (es++[(SV.v (Value.string p),SV.agg [SV.v (Value.string p),SV.v (Value.int IntKind.u64 (v:Int)),SV.v (vZ 1),SV.sl 8 0 arr.size none],cl)])=es',(es'.all fun e=>bo e.fst&&bo e.snd.fst)=true,∀ (e:SV × SV × Nat),e∈es→cQ p e.fst,(p==p)=true,qI (List.map SV.v arr.toList) 5 (0,0) 1 arr.toList.length,decide ((↑es.length:Int)≥256)=false,∀ (e:SV × SV × Nat),e∈es→cQ p e.fst,(!bw p (↑v:Int) 1 arr.toList.length==0)=false,p.size≤1000000000∧0≤(↑v:Int)∧(↑v:Int)<18446744073709551616,decide (bF last p≥0)=false,(!last.toList==(⟨⟨[]⟩⟩:ByteArray).toList)=true,(!last.toList==(⟨⟨[]⟩⟩:ByteArray).toList)=true,last.size≤1000000000∧p.size≤1000000000,(!last.toList==(⟨⟨[]⟩⟩:ByteArray).toList)=true,(!last.toList==(⟨⟨[]⟩⟩:ByteArray).toList)=true,(!last.toList==(⟨⟨[]⟩⟩:ByteArray).toList)=true,(!last.toList==(⟨⟨[]⟩⟩:ByteArray).toList)=true,iX S 247 (0,0) 0 (some { block:=S.2,off:=o1:Addr }) l1 c1 p (↑v:Int) arr (Value.slice (some { block:=S.2,off:=o2:Addr }) l2 c2),decide (n>0)=true,decide (n>0)=true,decide (n>0)=true,decide (n>0)=true]:=by kernel_rfl
theorem MA (S:Src) (l1 c1 o1 l2 c2 o2 v kk j born cl cl':Nat) (s n n' f':Int) (last p:ByteArray) (arr:Array Value) (f:aD) (es es':List (SV × SV × Nat)) (q:List SV) (b:Nat × Nat):reach (fR S) 2 700 (SM.at (ew last n) 6 [dS TG (some ⟨S.blk,o1,none⟩) l1 c1 0,rF s,fX es cl]) ([(0,.b true),(1,.b true),(3,.b true),(4,.b true),(6,.cells [.v (.agg #[.string p,.int .u64 v,.int .i64 kk,.slice none 0 0]),.v (.slice (some ⟨S.blk,o2,none⟩) l2 c2)]),(7,.b true),(8,.b true),(9,.b true),(10,.b true),(12,.b true),(13,.b true),(14,.b true),(27,.b false),(29,.lX),(43,.b false),(47,.lX),(1000,.b true)]) [(0,0)] [] (lT n') 6 [dS TG none 0 0 10]=[0=0,vZ (IntKind.i64.wrap (n - 1))=vZ n',Value.slice none 0 0=Value.slice none 0 0,vZ 10=vZ 10,∀ (e:SV × SV × Nat),e∈es→cQ p e.fst,(p==p)=true,(none:Option Addr)=none∧0=0∧0=0,decide ((↑es.length:Int)≥256)=false,∀ (e:SV × SV × Nat),e∈es→cQ p e.fst,(!bw p (↑v:Int) (↑kk:Int) 0==0)=false,p.size≤1000000000∧0≤(↑v:Int)∧(↑v:Int)<18446744073709551616,decide (bF last p≥0)=true,(!last.toList==(⟨⟨[]⟩⟩:ByteArray).toList)=true,(!last.toList==(⟨⟨[]⟩⟩:ByteArray).toList)=true,last.size≤1000000000∧p.size≤1000000000,(!last.toList==(⟨⟨[]⟩⟩:ByteArray).toList)=true,(!last.toList==(⟨⟨[]⟩⟩:ByteArray).toList)=true,(!last.toList==(⟨⟨[]⟩⟩:ByteArray).toList)=true,(!last.toList==(⟨⟨[]⟩⟩:ByteArray).toList)=true,q9 S 247 (0,0) 0 (some { block:=S.2,off:=o1:Addr }) l1 c1 { toList:=[Value.string p,Value.int IntKind.u64 (↑v:Int),vZ (↑kk:Int),Value.slice none 0 0]:Array Value } (Value.slice (some { block:=S.2,off:=o2:Addr }) l2 c2),decide (n>0)=true,decide (n>0)=true,decide (n>0)=true,decide (n>0)=true]:=by kernel_rfl
theorem K9 (S:Src) (l1 c1 o1 l2 c2 o2 v kk j born cl cl':Nat) (s n n' f':Int) (last p:ByteArray) (arr:Array Value) (f:aD) (es es':List (SV × SV × Nat)) (q:List SV) (b:Nat × Nat):reach (fR S) 2 700 (SM.at (ew last n) 6 [dS TG (some ⟨S.blk,o1,none⟩) l1 c1 0,rF s,fX es cl]) ([(0,.b true),(1,.b true),(3,.b true),(4,.b true),(6,.cells [.v (.string p),.v (.int .u64 v),.v (.agg arr),.v (.slice (some ⟨S.blk,o2,none⟩) l2 c2)]),(7,.b true),(8,.b true),(9,.b true),(10,.b true),(12,.b true),(13,.b true),(14,.b true),(27,.b false),(29,.lX),(43,.b false),(47,.lX),(1000,.b true)]) [(0,0)] [] (lT n') 6 [dS TG none 0 0 10]=[0=0,vZ (IntKind.i64.wrap (n - 1))=vZ n',Value.slice none 0 0=Value.slice none 0 0,vZ 10=vZ 10,∀ (e:SV × SV × Nat),e∈es→cQ p e.fst,(p==p)=true,qI (List.map SV.v arr.toList) 5 (0,0) 1 arr.toList.length,decide ((↑es.length:Int)≥256)=false,∀ (e:SV × SV × Nat),e∈es→cQ p e.fst,(!bw p (↑v:Int) 1 arr.toList.length==0)=false,p.size≤1000000000∧0≤(↑v:Int)∧(↑v:Int)<18446744073709551616,decide (bF last p≥0)=true,(!last.toList==(⟨⟨[]⟩⟩:ByteArray).toList)=true,(!last.toList==(⟨⟨[]⟩⟩:ByteArray).toList)=true,last.size≤1000000000∧p.size≤1000000000,(!last.toList==(⟨⟨[]⟩⟩:ByteArray).toList)=true,(!last.toList==(⟨⟨[]⟩⟩:ByteArray).toList)=true,(!last.toList==(⟨⟨[]⟩⟩:ByteArray).toList)=true,(!last.toList==(⟨⟨[]⟩⟩:ByteArray).toList)=true,iX S 247 (0,0) 0 (some { block:=S.2,off:=o1:Addr }) l1 c1 p (↑v:Int) arr (Value.slice (some { block:=S.2,off:=o2:Addr }) l2 c2),decide (n>0)=true,decide (n>0)=true,decide (n>0)=true,decide (n>0)=true]:=by kernel_rfl
theorem Oi (S:Src) (l1 c1 o1 l2 c2 o2 v kk j born cl cl':Nat) (s n n' f':Int) (last p:ByteArray) (arr:Array Value) (f:aD) (es es':List (SV × SV × Nat)) (q:List SV) (b:Nat × Nat):reach (fR S) 2 700 (SM.at (ew last n) 6 [dS TG (some ⟨S.blk,o1,none⟩) l1 c1 0,rF s,fX es cl]) ([(0,.b true),(1,.b true),(3,.b true),(4,.b true),(6,.cells [.v (.agg #[.string p,.int .u64 v,.int .i64 kk,.slice none 0 0]),.v (.slice (some ⟨S.blk,o2,none⟩) l2 c2)]),(7,.b true),(8,.b true),(9,.b true),(10,.b true),(12,.b true),(13,.b true),(14,.b true),(27,.b false),(29,.hit j (.agg [.v (.string p),.v (.int .u64 f.v),.v (.int .i64 f.k),.v (.slice f.a f.l f.c)]) born),(35,.b true),(1000,.b true)]) [(0,0)] [] (lT n') 6 [dS TG none 0 0 10]=[0=0,vZ (IntKind.i64.wrap (n - 1))=vZ n',Value.slice none 0 0=Value.slice none 0 0,vZ 10=vZ 10,(!decide ((↑v:Int)>f.2))=true,(∀ (e:SV × SV × Nat),e∈List.take j es→cQ p e.fst)∧es[j]?=some (SV.v (Value.string p),SV.agg [SV.v (Value.string p),SV.v (Value.int IntKind.u64 f.2),SV.v (vZ f.3),SV.v (Value.slice f.4 f.5 f.6)],born),(!bw p (↑v:Int) (↑kk:Int) 0==0)=false,p.size≤1000000000∧0≤(↑v:Int)∧(↑v:Int)<18446744073709551616,decide (bF last p≥0)=true,(!last.toList==(⟨⟨[]⟩⟩:ByteArray).toList)=true,(!last.toList==(⟨⟨[]⟩⟩:ByteArray).toList)=true,last.size≤1000000000∧p.size≤1000000000,(!last.toList==(⟨⟨[]⟩⟩:ByteArray).toList)=true,(!last.toList==(⟨⟨[]⟩⟩:ByteArray).toList)=true,(!last.toList==(⟨⟨[]⟩⟩:ByteArray).toList)=true,(!last.toList==(⟨⟨[]⟩⟩:ByteArray).toList)=true,q9 S 247 (0,0) 0 (some { block:=S.2,off:=o1:Addr }) l1 c1 { toList:=[Value.string p,Value.int IntKind.u64 (↑v:Int),vZ (↑kk:Int),Value.slice none 0 0]:Array Value } (Value.slice (some { block:=S.2,off:=o2:Addr }) l2 c2),decide (n>0)=true,decide (n>0)=true,decide (n>0)=true,decide (n>0)=true]:=by kernel_rfl
theorem JO (S:Src) (l1 c1 o1 l2 c2 o2 v kk j born cl cl':Nat) (s n n' f':Int) (last p:ByteArray) (arr:Array Value) (f:aD) (es es':List (SV × SV × Nat)) (q:List SV) (b:Nat × Nat):reach (fR S) 2 700 (SM.at (ew last n) 6 [dS TG (some ⟨S.blk,o1,none⟩) l1 c1 0,rF s,fX es cl]) ([(0,.b true),(1,.b true),(3,.b true),(4,.b true),(6,.cells [.v (.string p),.v (.int .u64 v),.v (.agg arr),.v (.slice (some ⟨S.blk,o2,none⟩) l2 c2)]),(7,.b true),(8,.b true),(9,.b true),(10,.b true),(12,.b true),(13,.b true),(14,.b true),(27,.b false),(29,.hit j (.agg [.v (.string p),.v (.int .u64 f.v),.v (.int .i64 f.k),.v (.slice f.a f.l f.c)]) born),(35,.b true),(1000,.b true)]) [(0,0)] [] (lT n') 6 [dS TG none 0 0 10]=[0=0,vZ (IntKind.i64.wrap (n - 1))=vZ n',Value.slice none 0 0=Value.slice none 0 0,vZ 10=vZ 10,(!decide ((↑v:Int)>f.2))=true,(∀ (e:SV × SV × Nat),e∈List.take j es→cQ p e.fst)∧es[j]?=some (SV.v (Value.string p),SV.agg [SV.v (Value.string p),SV.v (Value.int IntKind.u64 f.2),SV.v (vZ f.3),SV.v (Value.slice f.4 f.5 f.6)],born),(!bw p (↑v:Int) 1 arr.toList.length==0)=false,p.size≤1000000000∧0≤(↑v:Int)∧(↑v:Int)<18446744073709551616,decide (bF last p≥0)=true,(!last.toList==(⟨⟨[]⟩⟩:ByteArray).toList)=true,(!last.toList==(⟨⟨[]⟩⟩:ByteArray).toList)=true,last.size≤1000000000∧p.size≤1000000000,(!last.toList==(⟨⟨[]⟩⟩:ByteArray).toList)=true,(!last.toList==(⟨⟨[]⟩⟩:ByteArray).toList)=true,(!last.toList==(⟨⟨[]⟩⟩:ByteArray).toList)=true,(!last.toList==(⟨⟨[]⟩⟩:ByteArray).toList)=true,iX S 247 (0,0) 0 (some { block:=S.2,off:=o1:Addr }) l1 c1 p (↑v:Int) arr (Value.slice (some { block:=S.2,off:=o2:Addr }) l2 c2),decide (n>0)=true,decide (n>0)=true,decide (n>0)=true,decide (n>0)=true]:=by kernel_rfl
theorem Pd (S:Src) (l1 c1 o1 l2 c2 o2 v kk j born cl cl':Nat) (s n n' f':Int) (last p:ByteArray) (arr:Array Value) (f:aD) (es es':List (SV × SV × Nat)) (q:List SV) (b:Nat × Nat):reach (fR S) 2 700 (SM.at (ew last n) 6 [dS TG (some ⟨S.blk,o1,none⟩) l1 c1 0,rF s,fX es cl]) ([(0,.b true),(1,.b true),(3,.b true),(4,.b true),(6,.cells [.v (.agg #[.string p,.int .u64 v,.int .i64 kk,.slice none 0 0]),.v (.slice (some ⟨S.blk,o2,none⟩) l2 c2)]),(7,.b true),(8,.b true),(9,.b true),(10,.b true),(12,.b true),(13,.b true),(14,.b true),(27,.b false),(29,.hit j (.agg [.v (.string p),.v (.int .u64 f.v),.v (.int .i64 f.k),.v (.slice f.a f.l f.c)]) born),(35,.b false),(47,.hit j (.agg [.v (.string p),.v (.int .u64 f.v),.v (.int .i64 f.k),.v (.slice f.a f.l f.c)]) born),(1000,.b true)]) [(0,0)] [] (lT n') 6 [dS TG none 0 0 10]=[0=0,vZ (IntKind.i64.wrap (n - 1))=vZ n',Value.slice none 0 0=Value.slice none 0 0,vZ 10=vZ 10,(∀ (e:SV × SV × Nat),e∈List.take j es→cQ p e.fst)∧es[j]?=some (SV.v (Value.string p),SV.agg [SV.v (Value.string p),SV.v (Value.int IntKind.u64 f.2),SV.v (vZ f.3),SV.v (Value.slice f.4 f.5 f.6)],born),(p==p)=true,(none:Option Addr)=none∧0=0∧0=0,(!decide ((↑v:Int)>f.2))=false,(∀ (e:SV × SV × Nat),e∈List.take j es→cQ p e.fst)∧es[j]?=some (SV.v (Value.string p),SV.agg [SV.v (Value.string p),SV.v (Value.int IntKind.u64 f.2),SV.v (vZ f.3),SV.v (Value.slice f.4 f.5 f.6)],born),(!bw p (↑v:Int) (↑kk:Int) 0==0)=false,p.size≤1000000000∧0≤(↑v:Int)∧(↑v:Int)<18446744073709551616,decide (bF last p≥0)=true,(!last.toList==(⟨⟨[]⟩⟩:ByteArray).toList)=true,(!last.toList==(⟨⟨[]⟩⟩:ByteArray).toList)=true,last.size≤1000000000∧p.size≤1000000000,(!last.toList==(⟨⟨[]⟩⟩:ByteArray).toList)=true,(!last.toList==(⟨⟨[]⟩⟩:ByteArray).toList)=true,(!last.toList==(⟨⟨[]⟩⟩:ByteArray).toList)=true,(!last.toList==(⟨⟨[]⟩⟩:ByteArray).toList)=true,q9 S 247 (0,0) 0 (some { block:=S.2,off:=o1:Addr }) l1 c1 { toList:=[Value.string p,Value.int IntKind.u64 (↑v:Int),vZ (↑kk:Int),Value.slice none 0 0]:Array Value } (Value.slice (some { block:=S.2,off:=o2:Addr }) l2 c2),decide (n>0)=true,decide (n>0)=true,decide (n>0)=true,decide (n>0)=true]:=by kernel_rfl
theorem KL (S:Src) (l1 c1 o1 l2 c2 o2 v kk j born cl cl':Nat) (s n n' f':Int) (last p:ByteArray) (arr:Array Value) (f:aD) (es es':List (SV × SV × Nat)) (q:List SV) (b:Nat × Nat):reach (fR S) 2 700 (SM.at (ew last n) 6 [dS TG (some ⟨S.blk,o1,none⟩) l1 c1 0,rF s,fX es cl]) ([(0,.b true),(1,.b true),(3,.b true),(4,.b true),(6,.cells [.v (.string p),.v (.int .u64 v),.v (.agg arr),.v (.slice (some ⟨S.blk,o2,none⟩) l2 c2)]),(7,.b true),(8,.b true),(9,.b true),(10,.b true),(12,.b true),(13,.b true),(14,.b true),(27,.b false),(29,.hit j (.agg [.v (.string p),.v (.int .u64 f.v),.v (.int .i64 f.k),.v (.slice f.a f.l f.c)]) born),(35,.b false),(47,.hit j (.agg [.v (.string p),.v (.int .u64 f.v),.v (.int .i64 f.k),.v (.slice f.a f.l f.c)]) born),(1000,.b true)]) [(0,0)] [] (lT n') 6 [dS TG none 0 0 10]=[0=0,vZ (IntKind.i64.wrap (n - 1))=vZ n',Value.slice none 0 0=Value.slice none 0 0,vZ 10=vZ 10,(∀ (e:SV × SV × Nat),e∈List.take j es→cQ p e.fst)∧es[j]?=some (SV.v (Value.string p),SV.agg [SV.v (Value.string p),SV.v (Value.int IntKind.u64 f.2),SV.v (vZ f.3),SV.v (Value.slice f.4 f.5 f.6)],born),(p==p)=true,qI (List.map SV.v arr.toList) 5 (0,0) 1 arr.toList.length,(!decide ((↑v:Int)>f.2))=false,(∀ (e:SV × SV × Nat),e∈List.take j es→cQ p e.fst)∧es[j]?=some (SV.v (Value.string p),SV.agg [SV.v (Value.string p),SV.v (Value.int IntKind.u64 f.2),SV.v (vZ f.3),SV.v (Value.slice f.4 f.5 f.6)],born),(!bw p (↑v:Int) 1 arr.toList.length==0)=false,p.size≤1000000000∧0≤(↑v:Int)∧(↑v:Int)<18446744073709551616,decide (bF last p≥0)=true,(!last.toList==(⟨⟨[]⟩⟩:ByteArray).toList)=true,(!last.toList==(⟨⟨[]⟩⟩:ByteArray).toList)=true,last.size≤1000000000∧p.size≤1000000000,(!last.toList==(⟨⟨[]⟩⟩:ByteArray).toList)=true,(!last.toList==(⟨⟨[]⟩⟩:ByteArray).toList)=true,(!last.toList==(⟨⟨[]⟩⟩:ByteArray).toList)=true,(!last.toList==(⟨⟨[]⟩⟩:ByteArray).toList)=true,iX S 247 (0,0) 0 (some { block:=S.2,off:=o1:Addr }) l1 c1 p (↑v:Int) arr (Value.slice (some { block:=S.2,off:=o2:Addr }) l2 c2),decide (n>0)=true,decide (n>0)=true,decide (n>0)=true,decide (n>0)=true]:=by kernel_rfl
theorem Nb (S:Src) (l1 c1 o1 l2 c2 o2 v kk j born cl cl':Nat) (s n n' f':Int) (last p:ByteArray) (arr:Array Value) (f:aD) (es es':List (SV × SV × Nat)) (q:List SV) (b:Nat × Nat):reach (fR S) 2 700 (SM.at (ew ⟨#[]⟩ n) 6 [dS TG (some ⟨S.blk,o1,none⟩) l1 c1 0,oV s]) ([(0,.b true),(1,.b true),(3,.b true),(4,.b true),(6,.cells [.v (.int .i64 f')]),(1000,.b true)]) [(0,0)] [] (lT n') 6 [dS TG none 0 0 f']=[0=0,vZ (IntKind.i64.wrap (n - 1))=vZ n',Value.slice none 0 0=Value.slice none 0 0,vZ f'=vZ f',0≤1000000000∧(0:Int)≤0∧(0:Int)<18446744073709551616,ix S 247 247 (0,0) 0 (some { block:=S.2,off:=o1:Addr }) l1 c1 f',decide (n>0)=true,decide (n>0)=true,decide (n>0)=true,decide (n>0)=true]:=by kernel_rfl
theorem MQ (S:Src) (l1 c1 o1 l2 c2 o2 v kk j born cl cl':Nat) (s n n' f':Int) (last p:ByteArray) (arr:Array Value) (f:aD) (es es':List (SV × SV × Nat)) (q:List SV) (b:Nat × Nat):reach (fR S) 2 700 (SM.at (ew last n) 6 [dS TG (some ⟨S.blk,o1,none⟩) l1 c1 0,rF s,fX es cl]) ([(0,.b true),(1,.b true),(3,.b true),(4,.b true),(6,.cells [.v (.int .i64 f')]),(7,.b true),(8,.b true),(9,.b true),(10,.b true),(12,.b true),(13,.b true),(14,.b false),(1000,.b true)]) [(0,0)] [] (lT n') 6 [dS TG none 0 0 f']=[0=0,vZ (IntKind.i64.wrap (n - 1))=vZ n',Value.slice none 0 0=Value.slice none 0 0,vZ f'=vZ f',0≤1000000000∧(0:Int)≤0∧(0:Int)<18446744073709551616,decide (bF last (⟨⟨[]⟩⟩:ByteArray)≥0)=false,(!last.toList==(⟨⟨[]⟩⟩:ByteArray).toList)=true,(!last.toList==(⟨⟨[]⟩⟩:ByteArray).toList)=true,last.size≤1000000000∧0≤1000000000,(!last.toList==(⟨⟨[]⟩⟩:ByteArray).toList)=true,(!last.toList==(⟨⟨[]⟩⟩:ByteArray).toList)=true,(!last.toList==(⟨⟨[]⟩⟩:ByteArray).toList)=true,(!last.toList==(⟨⟨[]⟩⟩:ByteArray).toList)=true,ix S 247 247 (0,0) 0 (some { block:=S.2,off:=o1:Addr }) l1 c1 f',decide (n>0)=true,decide (n>0)=true,decide (n>0)=true,decide (n>0)=true]:=by kernel_rfl
theorem Oy (S:Src) (l1 c1 o1 l2 c2 o2 v kk j born cl cl':Nat) (s n n' f':Int) (last p:ByteArray) (arr:Array Value) (f:aD) (es es':List (SV × SV × Nat)) (q:List SV) (b:Nat × Nat):reach (fR S) 2 700 (SM.at (ew last n) 6 [dS TG (some ⟨S.blk,o1,none⟩) l1 c1 0,rF s,fX es cl]) ([(0,.b true),(1,.b true),(3,.b true),(4,.b true),(6,.cells [.v (.int .i64 f')]),(7,.b true),(8,.b true),(9,.b true),(10,.b true),(12,.b true),(13,.b true),(14,.b true),(21,.b false),(22,.b false),(23,.b false),(1000,.b true)]) [(0,0)] [] (lT n') 6 [dS TG none 0 0 f']=[0=0,vZ (IntKind.i64.wrap (n - 1))=vZ n',Value.slice none 0 0=Value.slice none 0 0,vZ f'=vZ f',0≤1000000000∧(0:Int)≤0∧(0:Int)<18446744073709551616,(f'==0)=false,(f'==0)=false,(f'==0)=false,decide (bF last (⟨⟨[]⟩⟩:ByteArray)≥0)=true,(!last.toList==(⟨⟨[]⟩⟩:ByteArray).toList)=true,(!last.toList==(⟨⟨[]⟩⟩:ByteArray).toList)=true,last.size≤1000000000∧0≤1000000000,(!last.toList==(⟨⟨[]⟩⟩:ByteArray).toList)=true,(!last.toList==(⟨⟨[]⟩⟩:ByteArray).toList)=true,(!last.toList==(⟨⟨[]⟩⟩:ByteArray).toList)=true,(!last.toList==(⟨⟨[]⟩⟩:ByteArray).toList)=true,ix S 247 247 (0,0) 0 (some { block:=S.2,off:=o1:Addr }) l1 c1 f',decide (n>0)=true,decide (n>0)=true,decide (n>0)=true,decide (n>0)=true]:=by kernel_rfl
theorem OM (S:Src) (l1 c1 o1 l2 c2 o2 v kk j born cl cl':Nat) (s n n' f':Int) (last p:ByteArray) (arr:Array Value) (f:aD) (es es':List (SV × SV × Nat)) (q:List SV) (b:Nat × Nat):au (fR S) 90 400 (SM.at (lT n) 6 [dS TG none 0 0 f']) ([(0,.b true),(1,.b true),(3,.b true),(4,.b true),(5,.b false),(7,.b true),(9,.b true),(1000,.b true)]) (.tuple #[.pointer none,.int .i64 f'])=[Value.tuple { toList:=[Value.pointer none,vZ f']:Array Value }=Value.tuple { toList:=[Value.pointer none,vZ f']:Array Value },(!f'==0)=true,(!f'==0)=true,(f'==0)=false,decide (n>0)=true,decide (n>0)=true,decide (n>0)=true,decide (n>0)=true]:=by kernel_rfl
theorem N4 (S:Src) (l1 c1 o1 l2 c2 o2 v kk j born cl cl':Nat) (s n n' f':Int) (last p:ByteArray) (arr:Array Value) (f:aD) (es es':List (SV × SV × Nat)) (q:List SV) (b:Nat × Nat):au (fR S) 90 400 (SM.at (lT n) 6 [dS TG none 0 0 f']) ([(0,.b false),(1,.b false),(2,.b false),(3,.b false),(6,.b true),(8,.b true),(1000,.b true)]) (.tuple #[.pointer none,.int .i64 f'])=[Value.tuple { toList:=[Value.pointer none,vZ f']:Array Value }=Value.tuple { toList:=[Value.pointer none,vZ f']:Array Value },(!f'==0)=true,(!f'==0)=true,decide (n>0)=false,decide (n>0)=false,decide (n>0)=false,decide (n>0)=false]:=by kernel_rfl
theorem L9 (S:Src) (l1 c1 o1 l2 c2 o2 v kk j born cl cl':Nat) (s n n' f':Int) (last p:ByteArray) (arr:Array Value) (f:aD) (es es':List (SV × SV × Nat)) (q:List SV) (b:Nat × Nat):au (fR S) 90 400 (SM.at (ew ⟨#[]⟩ n) 6 [dS TG (some ⟨S.blk,o1,none⟩) l1 c1 0,oV s]) ([(0,.b false),(1,.b false),(2,.b false),(3,.b false),(8,.b true),(1000,.b true)]) (.tuple #[.pointer none,.int .i64 12])=[Value.tuple { toList:=[Value.pointer none,vZ 12]:Array Value }=Value.tuple { toList:=[Value.pointer none,vZ 12]:Array Value },decide ((↑l1:Int)>0)=true,decide (n>0)=false,decide (n>0)=false,decide (n>0)=false,decide (n>0)=false]:=by kernel_rfl
theorem Pm (S:Src) (l1 c1 o1 l2 c2 o2 v kk j born cl cl':Nat) (s n n' f':Int) (last p:ByteArray) (arr:Array Value) (f:aD) (es es':List (SV × SV × Nat)) (q:List SV) (b:Nat × Nat):au (fR S) 90 400 (SM.at (ew last n) 6 [dS TG (some ⟨S.blk,o1,none⟩) l1 c1 0,rF s,fX es cl]) ([(0,.b false),(1,.b false),(2,.b false),(3,.b false),(8,.b true),(1000,.b true)]) (.tuple #[.pointer none,.int .i64 12])=[Value.tuple { toList:=[Value.pointer none,vZ 12]:Array Value }=Value.tuple { toList:=[Value.pointer none,vZ 12]:Array Value },decide ((↑l1:Int)>0)=true,decide (n>0)=false,decide (n>0)=false,decide (n>0)=false,decide (n>0)=false]:=by kernel_rfl
theorem Oj (S:Src) (l1 c1 o1 l2 c2 o2 v kk j born cl cl':Nat) (s n n' f':Int) (last p:ByteArray) (arr:Array Value) (f:aD) (es es':List (SV × SV × Nat)) (q:List SV) (b:Nat × Nat):aB (fR S) 90 400 (SM.at (ew ⟨#[]⟩ n) 6 [dS TG (some ⟨S.blk,o1,none⟩) l1 c1 0,oV s]) ([(0,.b false),(1,.b false),(2,.b false),(3,.b false),(8,.b false),(1000,.b true)]) [(0,1)] [] (.tup [.ptr 0 0,.v (.int .i64 0)]) [oV s]=[0=0,vZ 0=vZ 0,Value.int IntKind.u64 s=Value.int IntKind.u64 s,Value.map none=Value.map none,decide ((↑l1:Int)>0)=false,decide (n>0)=false,decide (n>0)=false,decide (n>0)=false,decide (n>0)=false]:=by kernel_rfl
theorem NX (S:Src) (l1 c1 o1 l2 c2 o2 v kk j born cl cl':Nat) (s n n' f':Int) (last p:ByteArray) (arr:Array Value) (f:aD) (es es':List (SV × SV × Nat)) (q:List SV) (b:Nat × Nat):aB (fR S) 90 400 (SM.at (ew last n) 6 [dS TG (some ⟨S.blk,o1,none⟩) l1 c1 0,rF s,fX es cl]) ([(0,.b false),(1,.b false),(2,.b false),(3,.b false),(8,.b false),(1000,.b true)]) [(0,1),(1,2)] [1] (.tup [.ptr 0 0,.v (.int .i64 0)]) [IZ s,fX es cl]=[0=0,vZ 0=vZ 0,Value.int IntKind.u64 s=Value.int IntKind.u64 s,cl=cl,es=es,(es.all fun e=>bo e.fst&&bo e.snd.fst)=true,decide ((↑l1:Int)>0)=false,decide (n>0)=false,decide (n>0)=false,decide (n>0)=false,decide (n>0)=false]:=by kernel_rfl
end ez
end paths
end Go.Proofs.YtcbokmadfcedaaaGreatDoor
set_option linter.unusedSimpArgs false
set_option linter.unusedVariables false
set_option maxRecDepth 100000
namespace Go.Proofs.YtcbokmadfcedaaaGreatDoor
open Go Go.Rx Go.RowKit Go.Proofs
namespace paths
namespace ez
open eye (numR numR_cons u64_in)
def bh:Nat→ByteArray→List Int→List c7→Int × List c7
 | 0,_,zs,acc=>if zs=[] then (0,acc) else (12,[])
 | n+1,last,zs,acc=>match dT zs with
  | (none,f,_)=>(f,[])
  | (some x,_,rest)=>if last≠⟨#[]⟩∧0≤bF last x.1 then (10,[]) else bh n x.1 rest (acc++[x])
def dq (zs:List Int):Int × Nat × List c7:=match numR 1099511627776 zs with
 | (s,f,z2)=>if f≠0 then (f,0,[]) else match numR 256 z2 with
  | (n,f,z3)=>if f≠0 then (f,0,[]) else ((bh n ⟨#[]⟩ z3 []).1,s,(bh n ⟨#[]⟩ z3 []).2)
def rC (x:c7):Key:=(x.1,(x.2.1:Int),(x.2.2.1:Int),x.2.2.2)
theorem sT {m:Nat} {zs ys z2:List Int} {f:Int} (h:bX m zs=(ys,f,z2)):ys.length≤m:=by
 by_cases hf:f=0
 ·subst hf
  obtain ⟨n,t,hn,_,_,_,hl⟩:=j4 h
  have:=oW m zs
  rw [hn] at this
  have:n≤m:=this
  omega
 ·have:=(iE h hf).1
  rw [h] at this
  simp only [Prod.mk.injEq] at this
  rw [this.1];exact Nat.zero_le _
structure xo (p:ByteArray) (v k:Nat) (d:List Int):Prop where
 chk:bw p v k d.length=0
 size:p.size≤1000000000
 v0:(v:Int)<18446744073709551616
 k2:k≤2
 dF:d.length≤4096
 xM:k≠1→d=[]
theorem j8 {p p':ByteArray} {v k v' k':Nat} {d d' r r':List Int} {f:Int} (h:jh p v k d r=(some (p',v',k',d'),f,r')):f=0∧p=p'∧v=v'∧k=k'∧d=d'∧bw p v k d.length=0:=by
 unfold jh at h
 split at h
 ·rename_i hc
  simp only [Prod.mk.injEq,Option.some.injEq] at h
  obtain ⟨⟨rfl,rfl,rfl,rfl⟩,rfl,_⟩:=h
  exact ⟨rfl,rfl,rfl,rfl,rfl,hc⟩
 ·cases h
theorem ij {zs rest:List Int} {p:ByteArray} {v k:Nat} {d:List Int} {f:Int} (h:dT zs=(some (p,v,k,d),f,rest)):f=0∧xo p v k d:=by
 generalize h1:bX 96 zs=q1
 obtain ⟨t,f1,z2⟩:=q1
 have ht:=sT h1
 by_cases hf1:f1=0
 case neg=>rw [pQ h1 hf1] at h;cases h
 subst hf1
 generalize h2:numR 18446744073709551615 z2=q2
 obtain ⟨v',f2,z3⟩:=q2
 have hv:=oW 18446744073709551615 z2
 rw [h2] at hv
 have hv:v'≤18446744073709551615:=hv
 by_cases hf2:f2=0
 case neg=>rw [qT h1 h2 hf2] at h;cases h
 subst hf2
 generalize h3:numR 2 z3=q3
 obtain ⟨k',f3,z4⟩:=q3
 have hk:=oW 2 z3
 rw [h3] at hk
 have hk:k'≤2:=hk
 by_cases hf3:f3=0
 case neg=>rw [j2 h1 h2 h3 hf3] at h;cases h
 subst hf3
 have hs:(bt t).size≤1000000000:=by rw [gh];omega
 by_cases hk1:k'=1
 ·subst hk1
  generalize h4:bX 4096 z4=q4
  obtain ⟨d',f4,z5⟩:=q4
  have hd:=sT h4
  by_cases hf4:f4=0
  case neg=>rw [lD h1 h2 h3 h4 hf4] at h;cases h
  subst hf4
  rw [qh h1 h2 h3 h4] at h
  obtain ⟨rfl,rfl,rfl,rfl,rfl,hc⟩:=j8 h
  exact ⟨rfl,hc,hs,by omega,hk,hd,fun h=>absurd rfl h⟩
 ·rw [qo h1 h2 h3 hk1] at h
  obtain ⟨rfl,rfl,rfl,rfl,rfl,hc⟩:=j8 h
  exact ⟨rfl,hc,hs,by omega,hk,Nat.zero_le _,fun _=>rfl⟩
theorem XS.cr {S:Src} {w0 w:World} (h:XS S w0) (hk:∀ k,k<w0.heap.size→w.heap[k]?=w0.heap[k]?):XS S w:=by
 obtain ⟨h1,⟨cs,e,fz,q1,q2,q3⟩,cs',fz',q4⟩:=h
 have hlt:=(Array.getElem?_eq_some_iff.1 q1).1
 exact ⟨h1.cr hk,⟨cs,e,fz,by rw [hk _ hlt,q1],q2,q3⟩,cs',fz',by rw [hk _ hlt,q4]⟩
theorem HH {S:Src} {M0 M:Own} {w00 w0:World} (hM:∀ z,¬ M0 z) (hB:bk M0 w00 M w0) (hX:XS S w00):aE (fR S) M w0:=
 aE.AR (Checked.mixed Tryz.checked) (by kernel_rfl) (eR.of ji rfl dL) (cV.oI (X:=XS S) (l:=Km S) rfl (fun r h=>by
  simp only [Km,List.mem_cons,List.not_mem_nil,or_false] at h
  rcases h with rfl | rfl | rfl | rfl | rfl
  ·exact sA.HP Gn
  ·exact Cj
  ·exact (CA (cF.pure (r:=(102,lH)) G4) fun w h=>h.1).t
  ·exact (CA (j6 zq) fun w h=>h.1).t
  ·exact vW.t) fun ν s w hr _=>hX.cr fun k hk=>(hr.frame k (Nat.lt_of_lt_of_le hk hB.size) (hB.frame k hk (hM k)).2).trans (hB.frame k hk (hM k)).1) (fun f g h=>by cases h)
theorem eQ {S:Src} {M:Own} {w0:World} {cs0:List Frame} {f:FuncId} {R:Ending→World→Prop} {k n d:Nat} {St:SM} {o:List (Nat × c9)} {ren:List (Nat × Nat)} {eqs:List Nat} {F:SF} {l:List (Option (SO × Bool))} (K:aE (fR S) M w0) (h:cp (Go.Rx.reach (fR S) k n St o ren eqs F d l)) (ht:dC (fR S) k n St o=F.todo)
  (hs:ao (fR S) M w0 cs0 f R (ax []) (SM.at F d l)):ao (fR S) M w0 cs0 f R (ax []) St:=ao.reach K h.out ht (fun i b h=>by simp [ax] at h) hs
theorem Fm {S:Src} {M:Own} {w0:World} {cs0:List Frame} {f:FuncId} {R:Ending→World→Prop} {n:Nat} {St:SM} {o:List (Nat × c9)} {v:Value} (K:aE (fR S) M w0) (h:cp (Go.Rx.au (fR S) f n St o v)) (hR:∀ ν' M1 w1 s' w',bk M w0 M1 w1→HR ν' M1 w1 s' w'→R (.returned v) w'):ao (fR S) M w0 cs0 f R (ax []) St:=ao.au K h.out fun ν' M1 w1 s' w' _ hB hr=>hR ν' M1 w1 s' w' hB hr
def Dd (W : World) (s : Nat) (r : Int × List c7) (e : Ending) (w' : World) : Prop := Below W.heap.size W w' ∧
  ((r.1 ≠ 0 ∧ e = .returned (.tuple #[.pointer none, .int .i64 r.1])) ∨
   (r.1 = 0 ∧ ∃ b, W.heap.size ≤ b ∧ e = .returned (.tuple #[.pointer (some ⟨b, 0, none⟩), .int .i64 0]) ∧
     ((r.2 = [] ∧ w'.heap[b]? = some (.cells #[.int .u64 s, .map none] 122 (0, 0))) ∨
      ∃ m E cl, W.heap.size ≤ m ∧ gq w' b m s E cl ∧ dh E cl ∧ E.map (KM (dp w'.hp)) = r.2.map rC ∧ (∀ e ∈ E, ∃ zs, dg w'.hp e.1 zs ∧ wM W e.1) ∧ E.length ≤ 256)))
theorem pk {j:Nat} (h:j≤1000):IntKind.i64.wrap (((j+1:Nat):Int) - (1:Int))=(j:Int):=by rw [show ((j+1:Nat):Int) - 1=(j:Int) by omega];exact IntWalk.i64_in _ (by omega)
section
variable {S:Src} {W:World} {M:Own} {cs0:List Frame}
theorem pW (hX:XS S W) (hM:∀ z,¬ M z) {M1:Own} {w1:World} (hB:bk M W M1 w1) {n f':Int} (hf:f'≠0) {s:Nat} {acc:List c7}:ao (fR S) M1 w1 cs0 90 (Dd W s (f',acc)) (ax []) (SM.at (lT n) 6 [dS TG none 0 0 f']):=by
 have K:=HH hM hB hX
 have e1:=oP hf
 have e2:=gP hf
 have fin:∀ ν' M2 w2 s' w',bk M1 w1 M2 w2→HR ν' M2 w2 s' w'→Dd W s (f',acc) (.returned (.tuple #[.pointer none,.int .i64 f'])) w':=fun ν' M2 w2 s' w' hB2 hr=>⟨aG hM (hB.trans hB2) hr,.inl ⟨hf,rfl⟩⟩
 cases hn:decide (n>(0:Int))
 ·refine Fm K (ah (N4 S 0 0 0 0 0 0 0 0 0 0 0 0 0 n 0 f' ⟨#[]⟩ ⟨#[]⟩ #[] ⟨⟨#[]⟩,0,0,none,0,0⟩ [] [] [] (0,0)) ?_) fin
  simp only [af]
  repeat' apply And.intro
  all_goals first | exact True.intro | with_reducible assumption | with_reducible rfl | rfl
 ·refine Fm K (ah (OM S 0 0 0 0 0 0 0 0 0 0 0 0 0 n 0 f' ⟨#[]⟩ ⟨#[]⟩ #[] ⟨⟨#[]⟩,0,0,none,0,0⟩ [] [] [] (0,0)) ?_) fin
  simp only [af]
  repeat' apply And.intro
  all_goals first | exact True.intro | with_reducible assumption | with_reducible rfl | rfl
end
section
variable {adv:Nat→Nat→Nat→Nat} {zs:List Int} {o c:Nat}
theorem qc (hg:zU adv) {m n:Nat} {t:List Int} (h:numR m zs=(n,0,t)) (hz:∀ z∈zs,0≤z∧z<256) (hlc:zs.length≤c):∃ k,0<k∧k≤zs.length∧t=zs.drop k∧lC o zs.length k (cN adv m zs o c).1∧zs.length - k≤(cN adv m zs o c).2:=by
 obtain ⟨k,h1,h2,rfl,_⟩:=fa h hz
 refine ⟨k,h1,h2,rfl,?_⟩
 rw [← kx h h2]
 exact ⟨hg o zs.length c k h1 h2 hlc,by show zs.length - k≤c - k;omega⟩
theorem oK (hg:zU adv) {m:Nat} {ys z2:List Int} (h:bX m zs=(ys,0,z2)) (hz:∀ z∈zs,0≤z∧z<256) (hlc:zs.length≤c):∃ k,0<k∧k≤zs.length∧z2=zs.drop k∧lC o zs.length k (dz adv m zs o c).1∧zs.length - k≤(dz adv m zs o c).2:=by
 obtain ⟨n,t,hn,hnt,_,rfl,_⟩:=j4 h
 obtain ⟨k,h1,h2,rfl,_⟩:=fa hn hz
 rw [List.length_drop] at hnt
 refine ⟨k+n,by omega,by omega,by rw [List.drop_drop],?_⟩
 rw [← lx hn h2]
 refine ⟨(hg o zs.length c k h1 h2 hlc).trans (tp hnt (by omega)) (by omega),?_⟩
 show zs.length - (k+n)≤c - k - n
 omega
end
theorem pU {zs:List Int} (hz:∀ z∈zs,0≤z∧z<256) (k:Nat):∀ z∈zs.drop k,0≤z∧z<256:=fun z h=>hz z (List.mem_of_mem_drop h)
theorem mL {adv:Nat→Nat→Nat→Nat} (hg:zU adv) {zs rest:List Int} {x:c7} {f:Int} {o c:Nat} (h:dT zs=(some x,f,rest)) (hz:∀ z∈zs,0≤z∧z<256) (hlc:zs.length≤c):∃ k,0<k∧k≤zs.length∧rest=zs.drop k∧lC o zs.length k (eH adv zs o c).1∧zs.length - k≤(eH adv zs o c).2:=by
 generalize h1:bX 96 zs=q1
 obtain ⟨t,f1,z2⟩:=q1
 by_cases hf1:f1=0
 case neg=>rw [pQ h1 hf1] at h;cases h
 subst hf1
 obtain ⟨k1,a1,a2,rfl,a3,a4⟩:=oK hg (o:=o) h1 hz hlc
 generalize hp2:dz adv 96 zs o c=p2 at a3 a4
 obtain ⟨o2,c2⟩:=p2
 dsimp only at a3 a4
 have hz2:=pU hz k1
 have hl2:(zs.drop k1).length=zs.length - k1:=List.length_drop
 generalize h2:numR 18446744073709551615 (zs.drop k1)=q2
 obtain ⟨v,f2,z3⟩:=q2
 by_cases hf2:f2=0
 case neg=>rw [qT h1 h2 hf2] at h;cases h
 subst hf2
 obtain ⟨k3,b1,b2,rfl,b3,b4⟩:=qc hg (o:=o2) (c:=c2) h2 hz2 (by omega)
 generalize hp3:cN adv 18446744073709551615 (zs.drop k1) o2 c2=p3 at b3 b4
 obtain ⟨o3,c3⟩:=p3
 dsimp only at b3 b4
 have hz3:=pU hz2 k3
 have hl3:((zs.drop k1).drop k3).length=zs.length - k1 - k3:=by rw [List.length_drop,hl2]
 generalize h3:numR 2 ((zs.drop k1).drop k3)=q3
 obtain ⟨k,f3,z4⟩:=q3
 by_cases hf3:f3=0
 case neg=>rw [j2 h1 h2 h3 hf3] at h;cases h
 subst hf3
 obtain ⟨k4,c1',c2',rfl,c3',c4'⟩:=qc hg (o:=o3) (c:=c3) h3 hz3 (by omega)
 generalize hp4:cN adv 2 ((zs.drop k1).drop k3) o3 c3=p4 at c3' c4'
 obtain ⟨o4,c4⟩:=p4
 dsimp only at c3' c4'
 have hz4:=pU hz3 k4
 have hl4:(((zs.drop k1).drop k3).drop k4).length=zs.length - k1 - k3 - k4:=by rw [List.length_drop,hl3]
 rw [hl2] at b2 b3 b4
 rw [hl3] at c2' c3' c4'
 have AA:lC o zs.length (k1+(k3+k4)) o4:=a3.trans (b3.trans c3' (by omega)) (by omega)
 by_cases hk1:k=1
 ·subst hk1
  generalize h4:bX 4096 (((zs.drop k1).drop k3).drop k4)=q4
  obtain ⟨d,f4,z5⟩:=q4
  by_cases hf4:f4=0
  case neg=>rw [lD h1 h2 h3 h4 hf4] at h;cases h
  subst hf4
  obtain ⟨k5,d1,d2,rfl,d3,d4⟩:=oK hg (o:=o4) (c:=c4) h4 hz4 (by omega)
  generalize hp5:dz adv 4096 (((zs.drop k1).drop k3).drop k4) o4 c4=p5 at d3 d4
  obtain ⟨o5,c5⟩:=p5
  dsimp only at d3 d4
  rw [hl4] at d2 d3 d4
  rw [qh h1 h2 h3 h4] at h
  have hr:rest=(((zs.drop k1).drop k3).drop k4).drop k5:=by
   unfold jh at h
   split at h
   ·simp only [Prod.mk.injEq] at h;exact h.2.2.symm
   ·cases h
  refine ⟨k1+(k3+k4)+k5,by omega,by omega,by rw [hr];simp only [List.drop_drop];congr 1;omega,?_⟩
  rw [← pI h1 h2 h3 hp2.symm hp3.symm hp4.symm hp5.symm]
  exact ⟨AA.trans (by rw [show zs.length - (k1+(k3+k4))=zs.length - k1 - k3 - k4 by omega];exact d3) (by omega),by show zs.length - (k1+(k3+k4)+k5)≤c5;omega⟩
 ·rw [qo h1 h2 h3 hk1] at h
  have hr:rest=((zs.drop k1).drop k3).drop k4:=by
   unfold jh at h
   split at h
   ·simp only [Prod.mk.injEq] at h;exact h.2.2.symm
   ·cases h
  refine ⟨k1+(k3+k4),by omega,by omega,by rw [hr];simp only [List.drop_drop];congr 1;omega,?_⟩
  rw [← ry h1 h2 h3 hk1 hp2.symm hp3.symm hp4.symm]
  exact ⟨AA,by show zs.length - (k1+(k3+k4))≤c4;omega⟩
theorem ko {zs rest:List Int} {f:Int} (h:dT zs=(none,f,rest)):f≠0∧rest=[]:=by
 unfold dT at h
 split at h
 rename_i t f1 z2 _
 split at h
 ·rename_i hf;cases h;exact ⟨hf,rfl⟩
 split at h
 rename_i v f2 z3 _
 split at h
 ·rename_i hf;cases h;exact ⟨hf,rfl⟩
 split at h
 rename_i k f3 z4 _
 split at h
 ·rename_i hf;cases h;exact ⟨hf,rfl⟩
 split at h
 ·unfold jh at h
  split at h
  ·cases h
  ·cases h;exact ⟨by decide,rfl⟩
 split at h
 rename_i d f4 z5 _
 split at h
 ·rename_i hf;cases h;exact ⟨hf,rfl⟩
 ·unfold jh at h
  split at h
  ·cases h
  ·cases h;exact ⟨by decide,rfl⟩
structure SB (W:World) (M:Own) (H:Hp) (M1:Own) (w1:World) (E:List bK) (cl:Nat) (acc:List c7):Prop where
 kept:Kept W.hp M W H M1 w1
 ok:dh E cl
 keys:E.map (KM (dp H))=acc.map rC
 data:∀ e∈E,∃ zs,dg H e.1 zs∧wM W e.1
 ord:acc.Pairwise fun x y=>bF x.1 y.1<0
section
variable {W:World} {M:Own} {H:Hp} {M1:Own} {w1:World} {E:List bK} {cl:Nat} {acc:List c7}
theorem SB.of (h:SB W M H M1 w1 E cl acc) {e:bK} (he:e∈E):∃ x∈acc,x.1=e.1.p:=by
 have:KM (dp H) e∈acc.map rC:=by rw [← h.keys];exact List.mem_map.2 ⟨e,he,rfl⟩
 obtain ⟨x,hx,hk⟩:=List.mem_map.1 this
 exact ⟨x,hx,congrArg Prod.fst hk⟩
theorem SB.to (h:SB W M H M1 w1 E cl acc) {x:c7} (hx:x∈acc):∃ e∈E,e.1.p=x.1:=by
 have:rC x∈E.map (KM (dp H)):=by rw [h.keys];exact List.mem_map.2 ⟨x,hx,rfl⟩
 obtain ⟨e,he,hk⟩:=List.mem_map.1 this
 exact ⟨e,he,congrArg Prod.fst hk⟩
theorem SB.lX (h:SB W M H M1 w1 E cl acc) {p:ByteArray} (hc:acc=[]∨∃ a0 x0,acc=a0++[x0]∧bF x0.1 p<0):∀ e∈E,e.1.p≠p:=by
 intro e he hp
 obtain ⟨x,hx,hxp⟩:=h.of he
 rcases hc with rfl | ⟨a0,x0,rfl,hc⟩
 ·cases hx
 ·have:bF x.1 p<0:=by
   rcases List.mem_append.1 hx with hx | hx
   ·exact fo ((List.pairwise_append.1 h.ord).2.2 x hx x0 (by simp)) hc
   ·rw [List.mem_singleton.1 hx];exact hc
  rw [hxp,hp,nS] at this
  exact absurd this (by decide)
theorem SB.next (h:SB W M H M1 w1 E cl acc) {H':Hp} {M2:Own} {w2:World} (hk:Kept W.hp M W H' M2 w2) (hs:H.Sub H') {y:aD} {p:ByteArray} {v k:Nat} {d:List Int} (hy:dg H' y d) (hyn:wM W y) (hp:y.p=p) (hv:y.v=v) (hkk:y.k=k) (hI:xo p v k d)
  (hc:acc=[]∨∃ a0 x0,acc=a0++[x0]∧bF x0.1 p<0):SB W M H' M2 w2 (E++[(y,cl)]) (cl+1) (acc++[(p,v,k,d)]):=by
 have hold:∀ e∈E,∃ zs,dg H' e.1 zs∧wM W e.1∧dp H e.1=dp H' e.1:=fun e he=>by
  obtain ⟨zs,h1,hn⟩:=h.data e he
  exact ⟨zs,h1.mono hs,hn,by rw [h1.cont,(h1.mono hs).cont]⟩
 refine ⟨hk,h.ok.snoc (fun e he=>by rw [hp];exact h.lX hc e he) (by rw [hp];exact nd (x:=⟨p,v,k,none,d.length,0⟩) hI.chk) (by rw [hp];exact hI.size),?_,fun e he=>?_,?_⟩
 ·rw [List.map_append,List.map_append,← h.keys]
  congr 1
  ·exact List.map_congr_left fun e he=>by
    obtain ⟨_,_,_,hq⟩:=hold e he
    unfold KM KE;rw [hq]
  ·show [(y.p,y.v,y.k,dp H' y)]=[(p,(v:Int),(k:Int),d)]
   rw [hy.cont,hp,hv,hkk]
 ·rcases List.mem_append.1 he with he | he
  ·obtain ⟨zs,h1,h2,_⟩:=hold e he
   exact ⟨zs,h1,h2⟩
  ·rw [List.mem_singleton.1 he];exact ⟨d,hy,hyn⟩
 ·rw [List.pairwise_append]
  refine ⟨h.ord,List.pairwise_singleton _ _,fun a ha b hb=>?_⟩
  rw [List.mem_singleton.1 hb]
  rcases hc with rfl | ⟨a0,x0,rfl,hc⟩
  ·cases ha
  ·show bF a.1 p<0
   rcases List.mem_append.1 ha with ha | ha
   ·exact fo ((List.pairwise_append.1 h.ord).2.2 a ha x0 (by simp)) hc
   ·rw [List.mem_singleton.1 ha];exact hc
end
theorem iA {j:Nat} {last:ByteArray} {zs rest:List Int} {acc:List c7} {x:c7} {f:Int} (h:dT zs=(some x,f,rest)):bh (j+1) last zs acc=if last≠⟨#[]⟩∧0≤bF last x.1 then (10,[]) else bh j x.1 rest (acc++[x]):=by
 rw [bh,h]
def fE:aD:=⟨⟨#[]⟩,0,0,none,0,0⟩
theorem FV {S:Src} {M:Own} {w0:World} {cs0:List Frame} {f:FuncId} {R:Ending→World→Prop} {n:Nat} {St:SM} {o:List (Nat × c9)} {ren:List (Nat × Nat)} {eqs:List Nat} {x:SV} {l:List (Option (SO × Bool))} (K:aE (fR S) M w0) (h:cp (Go.Rx.aB (fR S) f n St o ren eqs x l))
  (hR:∀ ν' w' y,VR (ν'.ren ren) x y→yg (ν'.ren ren) M w0 w' l→(∃ M1 w1 s',bk M w0 M1 w1∧HR ν' M1 w1 s' w')→R (.returned y) w'):ao (fR S) M w0 cs0 f R (ax []) St:=ao.aB K h.out fun ν' w' y _=>hR ν' w' y
theorem zg {S:Src} {M:Own} {w0:World} {cs0:List Frame} {f:FuncId} {R:Ending→World→Prop} {H0 H:Hp} {M00:Own} {w00:World} (K:aE (fR S) M w0) (hM00:∀ b,¬ M00 b) (hk:Kept H0 M00 w00 H M w0) {k n d:Nat} {St:SM} {o:List (Nat × c9)} {ren:List (Nat × Nat)} {eqs:List Nat} {F:SF} {l:Nat × Nat→List (Option (SO × Bool))} {m j:Nat} {so:SO}
  (h:∀ b,cp (Go.Rx.iO (fR S) k n St o ren eqs F d (l b) m j so b)) (ht:dC (fR S) k n St o=F.todo)
  (hs:∀ (ν1:aA) b ob M2 w2,ν1 j=some b→OR ν1 j so ob→Kept H0 M00 w00 (H.put b.1 ob) M2 w2→H.Sub (H.put b.1 ob)→w00.heap.size≤b.1→ao (fR S) M2 w2 cs0 f R (ax []) (SM.at F d (l b))):ao (fR S) M w0 cs0 f R (ax []) St:=
 ao.iO K hM00 hk (fun b=>(h b).out) ht (fun i b h=>by simp [ax] at h) hs
theorem DZ {x:ByteArray} (h:x≠⟨⟨[]⟩⟩):(!x.toList==(⟨⟨[]⟩⟩:ByteArray).toList)=true:=by
 rw [rS,rS]
 simp only [Bool.not_eq_true',beq_eq_false_iff_ne]
 intro e
 refine h ?_
 cases x with
 | mk d=>cases d with
  | mk l=>
   have:l=[]:=e
   rw [this]
section
variable {S:Src} {W:World} {M:Own} {cs0:List Frame}
theorem SB.full {H:Hp} {M1:Own} {w1:World} {E:List bK} {cl:Nat} {acc:List c7} (h:SB W M H M1 w1 E cl acc) {x:c7} (hx:x∈acc):x.1≠⟨⟨[]⟩⟩∧x.1.size≤1000000000:=by
 obtain ⟨e,he,hp⟩:=h.to hx
 rw [← hp]
 exact ⟨h.ok.full e he,h.ok.size e he⟩
set_option maxHeartbeats 4000000 in
theorem zA (hX:XS S W) (hM:∀ z,¬ M z) {s:Nat}:∀ (j:Nat) (zs:List Int) (o1 l1 c1:Nat) (H:Hp) (M1:Own) (w1:World) (E:List bK) (cl:Nat) (a0:List c7) (x0:c7),SB W M H M1 w1 E cl (a0++[x0])→E.length+j≤256→mf S o1 l1 c1 zs→
  ao (fR S) M1 w1 cs0 90 (Dd W s (bh j x0.1 zs (a0++[x0]))) (ax []) (SM.at (ew x0.1 (j:Int)) 6 [dS TG (some ⟨S.blk,o1,none⟩) l1 c1 0,rF s,fX (E.map mC) cl])
 | 0,zs,o1,l1,c1,H,M1,w1,E,cl,a0,x0,hS,dF,hE=>by
  have K:=HH hM hS.kept.base hX
  have hn:decide (((0:Nat):Int)>(0:Int))=false:=by decide
  have hlen:=hE.len
  by_cases hz:zs=[]
  ·have hr:bh 0 x0.1 zs (a0++[x0])=(0,a0++[x0]):=by unfold bh;rw [if_pos hz]
   rw [hr]
   have hl:decide ((l1:Int)>(0:Int))=false:=by rw [hz] at hlen;simp at hlen;rw [← hlen];decide
   have hcl:=lG E
   have hdue:cp (aB (fR S) 90 400 (SM.at (ew x0.1 ((0:Nat):Int)) 6 [dS TG (some ⟨S.blk,o1,none⟩) l1 c1 0,rF s,fX (E.map mC) cl]) [(0,.b false),(1,.b false),(2,.b false),(3,.b false),(8,.b false),(1000,.b true)] [(0,1),(1,2)] [1] (.tup [.ptr 0 0,.v (.int .i64 0)]) [IZ s,fX (E.map mC) cl]):=by
    refine ah (NX S l1 c1 o1 0 0 0 0 0 0 0 cl 0 s ((0:Nat):Int) 0 0 x0.1 ⟨#[]⟩ #[] fE (E.map mC) [] [] (0,0)) ?_
    simp only [af]
    repeat' apply And.intro
    all_goals first | exact True.intro | with_reducible assumption | with_reducible rfl | rfl
   refine FV K hdue fun ν' w' y hv hEM hh=>?_
   obtain ⟨M3,w3,s',hB,hr⟩:=hh
   have hbel:=aG hM (hS.kept.base.trans hB) hr
   have hnow:=hS.kept.now hB hr
   obtain ⟨a,rfl,ha⟩:=VR.bN.1 hv
   obtain ⟨y1,a,rfl,q1,ha⟩:=ha.cons_inv
   obtain ⟨y2,a,rfl,q2,ha⟩:=ha.cons_inv
   obtain rfl:=ha.aq
   obtain ⟨b,hb,rfl⟩:=VR.aw.1 q1
   obtain rfl:=VR.ab.1 q2
   obtain ⟨b',ob,hb',ho,hor,hw⟩:=hEM.obj 0 _ _ rfl
   rw [hb] at hb';cases hb'
   obtain ⟨bm,om,hbm,hom,horm,hwm⟩:=hEM.obj 1 _ _ rfl
   have hcont:∀ e∈E,dp H e.1=dp w'.hp e.1:=fun e he=>by
    obtain ⟨zs,hz,_⟩:=hS.data e he
    rw [hz.cont,(hz.mono hnow).cont]
   refine ⟨hbel,.inr ⟨rfl,b.1,pd (M3:=M3) (w3:=w3) hM hS.kept (hw rfl),rfl,.inr ⟨bm.1,E,cl,pd (M3:=M3) (w3:=w3) hM hS.kept (hwm rfl),⟨?_,?_⟩,hS.ok,?_,fun e he=>?_,by omega⟩⟩⟩
   ·obtain ⟨zs,rest,rfl,hz,hx⟩:=hor
    obtain ⟨z1,u,rfl,r1,hu⟩:=hz.cons_inv
    obtain ⟨z2,u2,rfl,r2,hu2⟩:=hu.cons_inv
    obtain rfl:=hu2.aq
    obtain rfl:=VR.ab.1 r1
    obtain ⟨bm',hbm',rfl⟩:=VR.bM.1 r2
    rw [hbm] at hbm';cases hbm'
    have h0:rest=[]:=by
     have:([Value.int .u64 s,Value.map (some bm.1)]++rest).length=2:=hx
     simpa using this
    subst h0
    rw [ho];rfl
   ·obtain ⟨l,rfl,hl⟩:=horm
    rw [hom,uz hl]
   ·show E.map (KM (dp w'.hp))=(a0++[x0]).map rC
    rw [← hS.keys]
    exact (List.map_congr_left fun e he=>by unfold KM KE;rw [hcont e he]).symm
   ·obtain ⟨zs,hz,hn⟩:=hS.data e he
    exact ⟨zs,hz.mono hnow,hn⟩
  ·have hr:bh 0 x0.1 zs (a0++[x0])=(12,[]):=by unfold bh;rw [if_neg hz]
   rw [hr]
   have hl:decide ((l1:Int)>(0:Int))=true:=decide_eq_true (by
    have:zs.length≠0:=fun h=>hz (List.length_eq_zero_iff.1 h)
    omega)
   refine Fm K (ah (Pm S l1 c1 o1 0 0 0 0 0 0 0 cl 0 s ((0:Nat):Int) 0 0 x0.1 ⟨#[]⟩ #[] fE (E.map mC) [] [] (0,0)) ?_) fun ν' M2 w2 s' w' hB2 hr=>⟨aG hM (hS.kept.base.trans hB2) hr,.inl ⟨by decide,rfl⟩⟩
   simp only [af]
   repeat' apply And.intro
   all_goals first | exact True.intro | with_reducible assumption | with_reducible rfl | rfl
 | j+1,zs,o1,l1,c1,H,M1,w1,E,cl,a0,x0,hS,dF,hE=>by
  have K:=HH hM hS.kept.base hX
  have hn:decide (((j+1:Nat):Int)>(0:Int))=true:=decide_eq_true (by omega)
  have hw:Value.int IntKind.i64 (IntKind.i64.wrap (((j+1:Nat):Int) - (1:Int)))=Value.int IntKind.i64 (j:Int):=by rw [pk (by omega)]
  obtain ⟨hfull,hsize⟩:=hS.full (x:=x0) (by simp)
  have hl:=DZ hfull
  have z1:(0:Nat)≤1000000000:=Nat.zero_le _
  have z2:(0:Int)≤(0:Int):=Int.le_refl _
  have z3:(0:Int)<(18446744073709551616:Int):=by decide
  generalize hent:dT zs=q
  obtain ⟨ox,f,rest⟩:=q
  cases ox with
  | none=>
   obtain ⟨hf,rfl⟩:=ko hent
   have hr:bh (j+1) x0.1 zs (a0++[x0])=(f,[]):=by unfold bh;rw [hent]
   rw [hr]
   have hQ:ix S TG TG (0,0) 0 (some ⟨S.blk,o1,none⟩) l1 c1 f:=⟨rfl,rfl,rfl,o1,zs,rfl,hE,hent,hf⟩
   have e2:=gP hf
   have bE:=pW (cs0:=cs0) (s:=s) (acc:=[]) (n:=(j:Int)) hX hM hS.kept.base hf
   cases hc:decide (bF x0.1 ⟨⟨[]⟩⟩≥(0:Int))
   ·refine eQ K (ah (MQ S l1 c1 o1 0 0 0 0 0 0 0 cl 0 s ((j+1:Nat):Int) (j:Int) f x0.1 ⟨#[]⟩ #[] fE (E.map mC) [] [] (0,0)) ?_) (by kernel_rfl) bE
    simp only [af]
    repeat' apply And.intro
    all_goals first | exact True.intro | with_reducible assumption | with_reducible rfl | rfl
   ·refine eQ K (ah (Oy S l1 c1 o1 0 0 0 0 0 0 0 cl 0 s ((j+1:Nat):Int) (j:Int) f x0.1 ⟨#[]⟩ #[] fE (E.map mC) [] [] (0,0)) ?_) (by kernel_rfl) bE
    simp only [af]
    repeat' apply And.intro
    all_goals first | exact True.intro | with_reducible assumption | with_reducible rfl | rfl
  | some x=>
   obtain ⟨p,v,k,d⟩:=x
   obtain ⟨rfl,hI⟩:=ij hent
   obtain ⟨k2,h0,h1,rfl,hA,hc'⟩:=mL pY (o:=o1) (c:=c1) hent hE.oE (by rw [hE.len];exact hE.lc)
   generalize hpp:eH aT zs o1 c1=pp at hA hc'
   obtain ⟨o2,c2⟩:=pp
   dsimp only at hA hc'
   rw [hE.len] at h1 hA hc'
   have hE2:=hE.step h1 hA hc'
   have hv0:(0:Int)≤(v:Int):=by omega
   have hv1:=hI.v0
   have hps:=hI.size
   have hpp2:=iS p
   have hes:decide (((E.map mC).length:Int)≥(256:Int))=false:=decide_eq_false (by rw [List.length_map];omega)
   by_cases hcmp:0≤bF x0.1 p
   ·have hr:bh (j+1) x0.1 zs (a0++[x0])=(10,[]):=by
     unfold bh;rw [hent];simp only
     rw [if_pos ⟨hfull,hcmp⟩]
    rw [hr]
    have hcm:decide (bF x0.1 p≥(0:Int))=true:=decide_eq_true hcmp
    have bE:=pW (cs0:=cs0) (s:=s) (acc:=[]) (n:=(j:Int)) hX hM hS.kept.base (f':=10) (by decide)
    by_cases hk1:k=1
    ·subst hk1
     obtain ⟨arr,harr⟩:∃ arr:Array Value,arr=(d.map (Value.int .u8)).toArray:=⟨_,rfl⟩
     have hal:arr.toList.length=d.length:=by rw [harr];simp
     have hQ:iX S TG (0,0) 0 (some ⟨S.blk,o1,none⟩) l1 c1 p (v:Int) arr (.slice (some ⟨S.blk,o2,none⟩) (l1 - k2) c2):=⟨rfl,rfl,rfl,o1,v,k2,o2,c2,zs,d,rfl,hE,hent,h1,hpp.symm,rfl,harr,rfl⟩
     have hC:qI (List.map SV.v arr.toList) 5 (0,0) 1 arr.toList.length:=⟨rfl,rfl,rfl,d,by rw [harr],hal,by have:=hI.dF;omega⟩
     have hchk:(!bw p (v:Int) (1:Int) arr.toList.length==(0:Int))=false:=by rw [hal];have:=hI.chk;rw [show ((1:Nat):Int)=1 from rfl] at this;rw [this];rfl
     by_cases hit:∃ g∈E,g.1.p=p
     ·obtain ⟨g,hg,hgp⟩:=hit
      obtain ⟨jj,hj,hjE⟩:=ui hS.ok.names hg
      rw [hgp] at hj
      have hj1:=hj.1
      have hj2:(E.map mC)[jj]?=some (SV.v (Value.string p),SV.agg [SV.v (Value.string p),SV.v (Value.int IntKind.u64 g.1.2),SV.v (Value.int IntKind.i64 g.1.3),SV.v (Value.slice g.1.4 g.1.5 g.1.6)],g.2):=by
       have:=hj.2
       rw [this];unfold vl;rw [← hgp]
      cases hnw:(!decide ((v:Int)>g.1.2))
      ·refine eQ K (ah (KL S l1 c1 o1 (l1 - k2) c2 o2 v 0 jj g.2 cl 0 s ((j+1:Nat):Int) (j:Int) 0 x0.1 p arr g.1 (E.map mC) [] [] (0,0)) ?_) (by kernel_rfl) bE
       simp only [af]
       repeat' apply And.intro
       all_goals first | exact True.intro | with_reducible assumption | with_reducible rfl | rfl
      ·refine eQ K (ah (JO S l1 c1 o1 (l1 - k2) c2 o2 v 0 jj g.2 cl 0 s ((j+1:Nat):Int) (j:Int) 0 x0.1 p arr g.1 (E.map mC) [] [] (0,0)) ?_) (by kernel_rfl) bE
       simp only [af]
       repeat' apply And.intro
       all_goals first | exact True.intro | with_reducible assumption | with_reducible rfl | rfl
     ·have hms:=pq (E:=E) (p:=p) fun e he hp=>hit ⟨e,he,hp⟩
      refine eQ K (ah (K9 S l1 c1 o1 (l1 - k2) c2 o2 v 0 0 0 cl 0 s ((j+1:Nat):Int) (j:Int) 0 x0.1 p arr fE (E.map mC) [] [] (0,0)) ?_) (by kernel_rfl) bE
      simp only [af]
      repeat' apply And.intro
      all_goals first | exact True.intro | with_reducible assumption | with_reducible rfl | rfl
    ·obtain rfl:=hI.xM hk1
     have hQ:q9 S TG (0,0) 0 (some ⟨S.blk,o1,none⟩) l1 c1 #[.string p,.int .u64 v,.int .i64 k,.slice none 0 0] (.slice (some ⟨S.blk,o2,none⟩) (l1 - k2) c2):=⟨rfl,rfl,rfl,o1,v,k,k2,o2,c2,zs,p,rfl,hE,hent,hk1,h1,hpp.symm,rfl,rfl⟩
     have hchk:(!bw p (v:Int) (k:Int) (0:Nat)==(0:Int))=false:=by have:=hI.chk;rw [show ([]:List Int).length=0 from rfl] at this;rw [this];rfl
     by_cases hit:∃ g∈E,g.1.p=p
     ·obtain ⟨g,hg,hgp⟩:=hit
      obtain ⟨jj,hj,hjE⟩:=ui hS.ok.names hg
      rw [hgp] at hj
      have hj1:=hj.1
      have hj2:(E.map mC)[jj]?=some (SV.v (Value.string p),SV.agg [SV.v (Value.string p),SV.v (Value.int IntKind.u64 g.1.2),SV.v (Value.int IntKind.i64 g.1.3),SV.v (Value.slice g.1.4 g.1.5 g.1.6)],g.2):=by
       have:=hj.2
       rw [this];unfold vl;rw [← hgp]
      cases hnw:(!decide ((v:Int)>g.1.2))
      ·refine eQ K (ah (Pd S l1 c1 o1 (l1 - k2) c2 o2 v k jj g.2 cl 0 s ((j+1:Nat):Int) (j:Int) 0 x0.1 p #[] g.1 (E.map mC) [] [] (0,0)) ?_) (by kernel_rfl) bE
       simp only [af]
       repeat' apply And.intro
       all_goals first | exact True.intro | with_reducible assumption | with_reducible rfl | rfl
      ·refine eQ K (ah (Oi S l1 c1 o1 (l1 - k2) c2 o2 v k jj g.2 cl 0 s ((j+1:Nat):Int) (j:Int) 0 x0.1 p #[] g.1 (E.map mC) [] [] (0,0)) ?_) (by kernel_rfl) bE
       simp only [af]
       repeat' apply And.intro
       all_goals first | exact True.intro | with_reducible assumption | with_reducible rfl | rfl
     ·have hms:=pq (E:=E) (p:=p) fun e he hp=>hit ⟨e,he,hp⟩
      refine eQ K (ah (MA S l1 c1 o1 (l1 - k2) c2 o2 v k 0 0 cl 0 s ((j+1:Nat):Int) (j:Int) 0 x0.1 p #[] fE (E.map mC) [] [] (0,0)) ?_) (by kernel_rfl) bE
      simp only [af]
      repeat' apply And.intro
      all_goals first | exact True.intro | with_reducible assumption | with_reducible rfl | rfl
   ·have hr:bh (j+1) x0.1 zs (a0++[x0])=bh j p (zs.drop k2) ((a0++[x0])++[(p,v,k,d)]):=by
     rw [iA hent]
     rw [if_neg fun h=>hcmp h.2]
    rw [hr]
    have hcm:decide (bF x0.1 p≥(0:Int))=false:=decide_eq_false hcmp
    have hco:(a0++[x0])=[]∨∃ b0 y0,a0++[x0]=b0++[y0]∧bF y0.1 p<0:=.inr ⟨a0,x0,rfl,by omega⟩
    have hms:=pq (E:=E) (p:=p) (hS.lX hco)
    by_cases hk1:k=1
    ·subst hk1
     obtain ⟨arr,harr⟩:∃ arr:Array Value,arr=(d.map (Value.int .u8)).toArray:=⟨_,rfl⟩
     have hal:arr.toList.length=d.length:=by rw [harr];simp
     have hQ:iX S TG (0,0) 0 (some ⟨S.blk,o1,none⟩) l1 c1 p (v:Int) arr (.slice (some ⟨S.blk,o2,none⟩) (l1 - k2) c2):=⟨rfl,rfl,rfl,o1,v,k2,o2,c2,zs,d,rfl,hE,hent,h1,hpp.symm,rfl,harr,rfl⟩
     have hC:qI (List.map SV.v arr.toList) 5 (0,0) 1 arr.toList.length:=⟨rfl,rfl,rfl,d,by rw [harr],hal,by have:=hI.dF;omega⟩
     have hchk:(!bw p (v:Int) (1:Int) arr.toList.length==(0:Int))=false:=by rw [hal];have:=hI.chk;rw [show ((1:Nat):Int)=1 from rfl] at this;rw [this];rfl
     have hca:(List.map SV.v arr.toList).all ae=true:=by rw [harr];exact gj d
     have hdue:∀ b:Nat × Nat,cp (Go.Rx.iO (fR S) 2 700 (SM.at (ew x0.1 ((j+1:Nat):Int)) 6 [dS TG (some ⟨S.blk,o1,none⟩) l1 c1 0,rF s,fX (E.map mC) cl]) _ [(0,0),(1,1),(2,2)] [2] (ew p (j:Int)) 6 [dS TG (some ⟨S.blk,o2,none⟩) (l1 - k2) c2 0,rF s,fX ((E++[((⟨p,(v:Int),1,some ⟨b.1,0,none⟩,arr.size,b.2⟩:aD),cl)]).map mC) (cl+1)] 2 8 (.row (arr.toList.map SV.v) 5 (0,0) (some 1)) b):=fun b=>by
      have hcs:fN 8 b (E.map mC++[(SV.v (Value.string p),SV.agg [SV.v (Value.string p),SV.v (Value.int IntKind.u64 (v:Int)),SV.v (Value.int IntKind.i64 (1:Int)),SV.sl 8 0 arr.size none],cl)])=(E++[((⟨p,(v:Int),1,some ⟨b.1,0,none⟩,arr.size,b.2⟩:aD),cl)]).map mC:=pz (E:=E) rfl
      have hcl:=lG (E++[((⟨p,(v:Int),1,some ⟨b.1,0,none⟩,arr.size,b.2⟩:aD),cl)])
      refine ah (JK S l1 c1 o1 (l1 - k2) c2 o2 v 0 0 0 cl (cl+1) s ((j+1:Nat):Int) (j:Int) 0 x0.1 p arr fE (E.map mC) ((E++[((⟨p,(v:Int),1,some ⟨b.1,0,none⟩,arr.size,b.2⟩:aD),cl)]).map mC) [] b) ?_
      simp only [af]
      repeat' apply And.intro
      all_goals first | exact True.intro | with_reducible assumption | with_reducible rfl | rfl
     refine zg K hM hS.kept hdue (by kernel_rfl) fun ν1 b ob M2 w2 hb1 hor hK hsub hbn=>?_
     have hby:=sP (H:=H) (b:=b) (x:=(⟨p,(v:Int),1,none,arr.size,0⟩:aD)) (zs:=d) (by show d.length=arr.size;rw [← hal];simp) (by rw [harr] at hor;exact hor)
     have nx:=zA hX hM (s:=s) j (zs.drop k2) o2 (l1 - k2) c2 (H.put b.1 ob) M2 w2 (E++[((⟨p,(v:Int),1,some ⟨b.1,0,none⟩,arr.size,b.2⟩:aD),cl)]) (cl+1) (a0++[x0]) (p,v,1,d) (hS.next hK hsub hby (fun a h=>by cases h;exact hbn) rfl rfl rfl hI hco) (by rw [List.length_append,List.length_singleton];omega) hE2
     exact nx
    ·obtain rfl:=hI.xM hk1
     have hQ:q9 S TG (0,0) 0 (some ⟨S.blk,o1,none⟩) l1 c1 #[.string p,.int .u64 v,.int .i64 k,.slice none 0 0] (.slice (some ⟨S.blk,o2,none⟩) (l1 - k2) c2):=⟨rfl,rfl,rfl,o1,v,k,k2,o2,c2,zs,p,rfl,hE,hent,hk1,h1,hpp.symm,rfl,rfl⟩
     have hchk:(!bw p (v:Int) (k:Int) (0:Nat)==(0:Int))=false:=by have:=hI.chk;rw [show ([]:List Int).length=0 from rfl] at this;rw [this];rfl
     have hcs:(E.map mC++[(SV.v (Value.string p),SV.agg [SV.v (Value.string p),SV.v (Value.int IntKind.u64 (v:Int)),SV.v (Value.int IntKind.i64 (k:Int)),SV.v (Value.slice none 0 0)],cl)])=(E++[((⟨p,(v:Int),(k:Int),none,0,0⟩:aD),cl)]).map mC:=by rw [List.map_append];rfl
     have hcl:=lG (E++[((⟨p,(v:Int),(k:Int),none,0,0⟩:aD),cl)])
     have nx:=zA hX hM (s:=s) j (zs.drop k2) o2 (l1 - k2) c2 H M1 w1 (E++[((⟨p,(v:Int),(k:Int),none,0,0⟩:aD),cl)]) (cl+1) (a0++[x0]) (p,v,k,[]) (hS.next hS.kept (Hp.Sub.refl _) (.inl ⟨rfl,rfl,rfl⟩) (fun a h=>by cases h) rfl rfl rfl hI hco) (by rw [List.length_append,List.length_singleton];omega) hE2
     refine eQ K (ah (Mk S l1 c1 o1 (l1 - k2) c2 o2 v k 0 0 cl (cl+1) s ((j+1:Nat):Int) (j:Int) 0 x0.1 p #[] fE (E.map mC) ((E++[((⟨p,(v:Int),(k:Int),none,0,0⟩:aD),cl)]).map mC) [] (0,0)) ?_) (by kernel_rfl) nx
     simp only [af]
     repeat' apply And.intro
     all_goals first | exact True.intro | with_reducible assumption | with_reducible rfl | rfl
end
theorem EE {S:Src} {l1 c1 o1 l2 c2 o2 v:Nat} {s n n':Int} {p:ByteArray} {arr:Array Value} {b:Nat × Nat} {es':List (SV × SV × Nat)} (hQ:iX S TG (0,0) 0 (some ⟨S.blk,o1,none⟩) l1 c1 p (v:Int) arr (.slice (some ⟨S.blk,o2,none⟩) l2 c2)) (hC:qI (List.map SV.v arr.toList) 5 (0,0) 1 arr.toList.length)
  (hchk:(!bw p (v:Int) (1:Int) arr.toList.length==(0:Int))=false) (hca:(List.map SV.v arr.toList).all ae=true) (hv0:(0:Int)≤(v:Int)) (hv1:(v:Int)<18446744073709551616) (hps:p.size≤1000000000) (hpp2:(p==p)=true) (hn:decide (n>(0:Int))=true) (hw:Value.int IntKind.i64 (IntKind.i64.wrap (n - (1:Int)))=Value.int IntKind.i64 n')
  (hcs:fN 8 b ([]++[(SV.v (Value.string p),SV.agg [SV.v (Value.string p),SV.v (Value.int IntKind.u64 (v:Int)),SV.v (Value.int IntKind.i64 (1:Int)),SV.sl 8 0 arr.size none],0)])=es') (hcl:(es'.all fun e=>bo e.1&&bo e.2.1)=true):cp (Go.Rx.iO (fR S) 2 700 (SM.at (ew ⟨#[]⟩ n) 6 [dS TG (some ⟨S.blk,o1,none⟩) l1 c1 0,oV s]) ([(0,.b true),(1,.b true),(3,.b true),(4,.b true),(6,.cells [.v (.string p),.v (.int .u64 v),.v (.agg arr),.v (.slice (some ⟨S.blk,o2,none⟩) l2 c2)]),(16,.b false),(1000,.b true)]) [(0,0),(1,1),(2,7)] [2] (ew p n') 6 [dS TG (some ⟨S.blk,o2,none⟩) l2 c2 0,rF s,fX es' 1] 7 8 (.row (arr.toList.map SV.v) 5 (0,0) (some 1)) b):=
 ah (KG S l1 c1 o1 l2 c2 o2 v 0 0 0 0 1 s n n' 0 ⟨#[]⟩ p arr fE [] es' [] b) (by
  simp only [af]
  repeat' apply And.intro
  all_goals first | exact True.intro | with_reducible assumption | with_reducible rfl | rfl)
theorem Gz {S:Src} {l1 c1 o1 l2 c2 o2 v k:Nat} {s n n':Int} {p:ByteArray} {es':List (SV × SV × Nat)} (hQ:q9 S TG (0,0) 0 (some ⟨S.blk,o1,none⟩) l1 c1 #[.string p,.int .u64 v,.int .i64 k,.slice none 0 0] (.slice (some ⟨S.blk,o2,none⟩) l2 c2))
  (hchk:(!bw p (v:Int) (k:Int) (0:Nat)==(0:Int))=false) (hv0:(0:Int)≤(v:Int)) (hv1:(v:Int)<18446744073709551616) (hps:p.size≤1000000000) (hpp2:(p==p)=true) (hn:decide (n>(0:Int))=true) (hw:Value.int IntKind.i64 (IntKind.i64.wrap (n - (1:Int)))=Value.int IntKind.i64 n')
  (hcs:([]++[(SV.v (Value.string p),SV.agg [SV.v (Value.string p),SV.v (Value.int IntKind.u64 (v:Int)),SV.v (Value.int IntKind.i64 (k:Int)),SV.v (Value.slice none 0 0)],0)])=es') (hcl:(es'.all fun e=>bo e.1&&bo e.2.1)=true):cp (Go.Rx.reach (fR S) 2 700 (SM.at (ew ⟨#[]⟩ n) 6 [dS TG (some ⟨S.blk,o1,none⟩) l1 c1 0,oV s]) ([(0,.b true),(1,.b true),(3,.b true),(4,.b true),(6,.cells [.v (.agg #[.string p,.int .u64 v,.int .i64 k,.slice none 0 0]),.v (.slice (some ⟨S.blk,o2,none⟩) l2 c2)]),(16,.b false),(1000,.b true)]) [(0,0),(1,1),(2,6)] [2] (ew p n') 6 [dS TG (some ⟨S.blk,o2,none⟩) l2 c2 0,rF s,fX es' 1]):=
 ah (OF S l1 c1 o1 l2 c2 o2 v k 0 0 0 1 s n n' 0 ⟨#[]⟩ p #[] fE [] es' [] (0,0)) (by
  simp only [af]
  repeat' apply And.intro
  all_goals first | exact True.intro | with_reducible assumption | with_reducible rfl | rfl)
section
variable {S:Src} {W:World} {M:Own} {cs0:List Frame}
theorem SB.nil {H:Hp} {M1:Own} {w1:World} (hk:Kept W.hp M W H M1 w1):SB W M H M1 w1 [] 0 []:=
 ⟨hk,⟨by simp,by simp,fun e he=>(nomatch he),fun e he=>(nomatch he),fun e he=>(nomatch he)⟩,rfl,fun e he=>(nomatch he),List.Pairwise.nil⟩
set_option maxHeartbeats 4000000 in
theorem IA (hX:XS S W) (hM:∀ z,¬ M z) {s:Nat} {H:Hp} {M1:Own} {w1:World} (hk:Kept W.hp M W H M1 w1):∀ (j:Nat) (zs:List Int) (o1 l1 c1:Nat),j≤256→mf S o1 l1 c1 zs→
  ao (fR S) M1 w1 cs0 90 (Dd W s (bh j ⟨#[]⟩ zs [])) (ax []) (SM.at (ew ⟨#[]⟩ (j:Int)) 6 [dS TG (some ⟨S.blk,o1,none⟩) l1 c1 0,oV s])
 | 0,zs,o1,l1,c1,dF,hE=>by
  have K:=HH hM hk.base hX
  have hn:decide (((0:Nat):Int)>(0:Int))=false:=by decide
  have hlen:=hE.len
  by_cases hz:zs=[]
  ·have hr:bh 0 ⟨#[]⟩ zs []=(0,[]):=by unfold bh;rw [if_pos hz]
   rw [hr]
   have hl:decide ((l1:Int)>(0:Int))=false:=by rw [hz] at hlen;simp at hlen;rw [← hlen];decide
   have hdue:cp (aB (fR S) 90 400 (SM.at (ew ⟨#[]⟩ ((0:Nat):Int)) 6 [dS TG (some ⟨S.blk,o1,none⟩) l1 c1 0,oV s]) [(0,.b false),(1,.b false),(2,.b false),(3,.b false),(8,.b false),(1000,.b true)] [(0,1)] [] (.tup [.ptr 0 0,.v (.int .i64 0)]) [oV s]):=by
    refine ah (Oj S l1 c1 o1 0 0 0 0 0 0 0 0 0 s ((0:Nat):Int) 0 0 ⟨#[]⟩ ⟨#[]⟩ #[] fE [] [] [] (0,0)) ?_
    simp only [af]
    repeat' apply And.intro
    all_goals first | exact True.intro | with_reducible assumption | with_reducible rfl | rfl
   refine FV K hdue fun ν' w' y hv hEM hh=>?_
   obtain ⟨M3,w3,s',hB,hr⟩:=hh
   have hbel:=aG hM (hk.base.trans hB) hr
   obtain ⟨a,rfl,ha⟩:=VR.bN.1 hv
   obtain ⟨y1,a,rfl,q1,ha⟩:=ha.cons_inv
   obtain ⟨y2,a,rfl,q2,ha⟩:=ha.cons_inv
   obtain rfl:=ha.aq
   obtain ⟨b,hb,rfl⟩:=VR.aw.1 q1
   obtain rfl:=VR.ab.1 q2
   obtain ⟨b',ob,hb',ho,hor,hw⟩:=hEM.obj 0 _ _ rfl
   rw [hb] at hb';cases hb'
   refine ⟨hbel,.inr ⟨rfl,b.1,pd (M3:=M3) (w3:=w3) hM hk (hw rfl),rfl,.inl ⟨rfl,?_⟩⟩⟩
   obtain ⟨zs,rest,rfl,hz,hx⟩:=hor
   obtain ⟨z1,u,rfl,r1,hu⟩:=hz.cons_inv
   obtain ⟨z2,u2,rfl,r2,hu2⟩:=hu.cons_inv
   obtain rfl:=hu2.aq
   obtain rfl:=VR.ab.1 r1
   obtain rfl:=VR.ab.1 r2
   have h0:rest=[]:=by
    have:([Value.int .u64 s,Value.map none]++rest).length=2:=hx
    simpa using this
   subst h0
   rw [ho];rfl
  ·have hr:bh 0 ⟨#[]⟩ zs []=(12,[]):=by unfold bh;rw [if_neg hz]
   rw [hr]
   have hl:decide ((l1:Int)>(0:Int))=true:=decide_eq_true (by
    have:zs.length≠0:=fun h=>hz (List.length_eq_zero_iff.1 h)
    omega)
   refine Fm K (ah (L9 S l1 c1 o1 0 0 0 0 0 0 0 0 0 s ((0:Nat):Int) 0 0 ⟨#[]⟩ ⟨#[]⟩ #[] fE [] [] [] (0,0)) ?_) fun ν' M2 w2 s' w' hB2 hr=>⟨aG hM (hk.base.trans hB2) hr,.inl ⟨by decide,rfl⟩⟩
   simp only [af]
   repeat' apply And.intro
   all_goals first | exact True.intro | with_reducible assumption | with_reducible rfl | rfl
 | j+1,zs,o1,l1,c1,dF,hE=>by
  have K:=HH hM hk.base hX
  have hS:=SB.nil hk
  have hn:decide (((j+1:Nat):Int)>(0:Int))=true:=decide_eq_true (by omega)
  have hw:Value.int IntKind.i64 (IntKind.i64.wrap (((j+1:Nat):Int) - (1:Int)))=Value.int IntKind.i64 (j:Int):=by rw [pk (by omega)]
  have z1:(0:Nat)≤1000000000:=Nat.zero_le _
  have z2:(0:Int)≤(0:Int):=Int.le_refl _
  have z3:(0:Int)<(18446744073709551616:Int):=by decide
  generalize hent:dT zs=q
  obtain ⟨ox,f,rest⟩:=q
  cases ox with
  | none=>
   obtain ⟨hf,rfl⟩:=ko hent
   have hr:bh (j+1) ⟨#[]⟩ zs []=(f,[]):=by unfold bh;rw [hent]
   rw [hr]
   have hQ:ix S TG TG (0,0) 0 (some ⟨S.blk,o1,none⟩) l1 c1 f:=⟨rfl,rfl,rfl,o1,zs,rfl,hE,hent,hf⟩
   have e2:=gP hf
   have bE:=pW (cs0:=cs0) (s:=s) (acc:=[]) (n:=(j:Int)) hX hM hk.base hf
   refine eQ K (ah (Nb S l1 c1 o1 0 0 0 0 0 0 0 0 0 s ((j+1:Nat):Int) (j:Int) f ⟨#[]⟩ ⟨#[]⟩ #[] fE [] [] [] (0,0)) ?_) (by kernel_rfl) bE
   simp only [af]
   repeat' apply And.intro
   all_goals first | exact True.intro | with_reducible assumption | with_reducible rfl | rfl
  | some x=>
   obtain ⟨p,v,k,d⟩:=x
   obtain ⟨rfl,hI⟩:=ij hent
   obtain ⟨k2,h0,h1,rfl,hA,hc'⟩:=mL pY (o:=o1) (c:=c1) hent hE.oE (by rw [hE.len];exact hE.lc)
   generalize hpp:eH aT zs o1 c1=pp at hA hc'
   obtain ⟨o2,c2⟩:=pp
   dsimp only at hA hc'
   rw [hE.len] at h1 hA hc'
   have hE2:=hE.step h1 hA hc'
   have hv0:(0:Int)≤(v:Int):=by omega
   have hv1:=hI.v0
   have hps:=hI.size
   have hpp2:=iS p
   have hr:bh (j+1) ⟨#[]⟩ zs []=bh j p (zs.drop k2) ([]++[(p,v,k,d)]):=by
    rw [iA hent]
    rw [if_neg fun h=>h.1 rfl]
   rw [hr]
   by_cases hk1:k=1
   ·subst hk1
    obtain ⟨arr,harr⟩:∃ arr:Array Value,arr=(d.map (Value.int .u8)).toArray:=⟨_,rfl⟩
    have hal:arr.toList.length=d.length:=by rw [harr];simp
    have hQ:iX S TG (0,0) 0 (some ⟨S.blk,o1,none⟩) l1 c1 p (v:Int) arr (.slice (some ⟨S.blk,o2,none⟩) (l1 - k2) c2):=⟨rfl,rfl,rfl,o1,v,k2,o2,c2,zs,d,rfl,hE,hent,h1,hpp.symm,rfl,harr,rfl⟩
    have hC:qI (List.map SV.v arr.toList) 5 (0,0) 1 arr.toList.length:=⟨rfl,rfl,rfl,d,by rw [harr],hal,by have:=hI.dF;omega⟩
    have hchk:(!bw p (v:Int) (1:Int) arr.toList.length==(0:Int))=false:=by rw [hal];have:=hI.chk;rw [show ((1:Nat):Int)=1 from rfl] at this;rw [this];rfl
    have hca:(List.map SV.v arr.toList).all ae=true:=by rw [harr];exact gj d
    have hcs:∀ b:Nat × Nat,fN 8 b ([]++[(SV.v (Value.string p),SV.agg [SV.v (Value.string p),SV.v (Value.int IntKind.u64 (v:Int)),SV.v (Value.int IntKind.i64 (1:Int)),SV.sl 8 0 arr.size none],0)])=([]++[((⟨p,(v:Int),1,some ⟨b.1,0,none⟩,arr.size,b.2⟩:aD),0)]).map mC:=fun b=>pz (E:=[]) rfl
    have hdue:=fun b:Nat × Nat=>EE (S:=S) (l1:=l1) (c1:=c1) (o1:=o1) (l2:=l1 - k2) (c2:=c2) (o2:=o2) (v:=v) (s:=(s:Int)) (n:=((j+1:Nat):Int)) (n':=(j:Int)) (p:=p) (arr:=arr) (b:=b) hQ hC hchk hca hv0 hv1 hps hpp2 hn hw (hcs b) (lG ([]++[((⟨p,(v:Int),1,some ⟨b.1,0,none⟩,arr.size,b.2⟩:aD),0)]))
    refine zg K hM hk hdue (by kernel_rfl) fun ν1 b ob M2 w2 hb1 hor hK hsub hbn=>?_
    have hby:=sP (H:=H) (b:=b) (x:=(⟨p,(v:Int),1,none,arr.size,0⟩:aD)) (zs:=d) (by show d.length=arr.size;rw [← hal];simp) (by rw [harr] at hor;exact hor)
    exact zA hX hM (s:=s) j (zs.drop k2) o2 (l1 - k2) c2 (H.put b.1 ob) M2 w2 ([]++[((⟨p,(v:Int),1,some ⟨b.1,0,none⟩,arr.size,b.2⟩:aD),0)]) (0+1) [] (p,v,1,d) (hS.next hK hsub hby (fun a h=>by cases h;exact hbn) rfl rfl rfl hI (.inl rfl)) (by rw [List.length_append,List.length_singleton,List.length_nil];omega) hE2
   ·obtain rfl:=hI.xM hk1
    have hQ:q9 S TG (0,0) 0 (some ⟨S.blk,o1,none⟩) l1 c1 #[.string p,.int .u64 v,.int .i64 k,.slice none 0 0] (.slice (some ⟨S.blk,o2,none⟩) (l1 - k2) c2):=⟨rfl,rfl,rfl,o1,v,k,k2,o2,c2,zs,p,rfl,hE,hent,hk1,h1,hpp.symm,rfl,rfl⟩
    have hchk:(!bw p (v:Int) (k:Int) (0:Nat)==(0:Int))=false:=by have:=hI.chk;rw [show ([]:List Int).length=0 from rfl] at this;rw [this];rfl
    have hcs:([]++[(SV.v (Value.string p),SV.agg [SV.v (Value.string p),SV.v (Value.int IntKind.u64 (v:Int)),SV.v (Value.int IntKind.i64 (k:Int)),SV.v (Value.slice none 0 0)],0)])=([]++[((⟨p,(v:Int),(k:Int),none,0,0⟩:aD),0)]).map mC:=rfl
    have hcl:=lG ([]++[((⟨p,(v:Int),(k:Int),none,0,0⟩:aD),0)])
    have nx:=zA (cs0:=cs0) hX hM (s:=s) j (zs.drop k2) o2 (l1 - k2) c2 H M1 w1 ([]++[((⟨p,(v:Int),(k:Int),none,0,0⟩:aD),0)]) (0+1) [] (p,v,k,[]) (hS.next hk (Hp.Sub.refl _) (.inl ⟨rfl,rfl,rfl⟩) (fun a h=>by cases h) rfl rfl rfl hI (.inl rfl)) (by rw [List.length_append,List.length_singleton,List.length_nil];omega) hE2
    exact eQ K (Gz (S:=S) (l1:=l1) (c1:=c1) (o1:=o1) (l2:=l1 - k2) (c2:=c2) (o2:=o2) (v:=v) (k:=k) (s:=(s:Int)) (n:=((j+1:Nat):Int)) (n':=(j:Int)) (p:=p) hQ hchk hv0 hv1 hps hpp2 hn hw hcs hcl) (by kernel_rfl) nx
end
theorem qD {W:World} {S:Src} {c:Nat} (hX:XS S W) (hS:zB S) (hlc:S.Z.length≤c):
  Calls Tryz.prog 90 #[.slice (some ⟨S.blk,S.o,none⟩) S.Z.length c] W (Dd W (dq S.Z).2.1 ((dq S.Z).1,(dq S.Z).2.2)):=by
 refine bV (E:=fR S) rfl rfl (args:=[.v (.slice (some ⟨S.blk,S.o,none⟩) S.Z.length c)]) (a:=[.slice (some ⟨S.blk,S.o,none⟩) S.Z.length c]) (S0:=wV S (some ⟨S.blk,S.o,none⟩) S.Z.length c) (by kernel_rfl) (aj.cons (VR.ab.2 rfl) aj.nil) fun cs0=>?_
 have hM:∀ z,¬ (az [] []) z:=a6
 have hK:=Kept.start (H0:=W.hp) (M:=az [] []) (w:=W) (Hp.Sub.refl _) (fun z o _=>hM z) (fun z h=>by obtain ⟨i,o,c,h,_⟩:=h;simp at h) (fun _ h=>h)
 have K:=HH hM hK.base hX
 have hE:=mf.start hS hlc
 generalize h1:numR 1099511627776 S.Z=q1
 obtain ⟨s,f1,z2⟩:=q1
 by_cases hf1:f1=0
 case neg=>
  have hr:dq S.Z=(f1,0,[]):=by unfold dq;rw [h1];simp only;rw [if_pos hf1]
  rw [hr]
  have a1:ja S TG TG (0,0) 0 (1099511627776:Int) (some ⟨S.blk,S.o,none⟩) S.Z.length c f1:=⟨rfl,rfl,rfl,S.o,1099511627776,S.Z,rfl,hE,rfl,by decide,iu h1 hf1,hf1⟩
  have a2:pJ TG TG (0,0) f1 (IntKind.u64.wrap (256:Int)) none 0 0:=⟨rfl,rfl,hf1,rfl,rfl,rfl,by decide⟩
  have bE:=pW (cs0:=cs0) (s:=0) (acc:=[]) (n:=0) hX hM hK.base hf1
  refine eQ K (ah (OI S (some ⟨S.blk,S.o,none⟩) S.Z.length c f1) ?_) (by kernel_rfl) bE
  simp only [af]
  repeat' apply And.intro
  all_goals first | exact True.intro | with_reducible assumption | with_reducible rfl | rfl
 subst hf1
 obtain ⟨k1,hk0,hk1,rfl,hsm⟩:=fa h1 hS.oE
 have a1:nL S TG aT TG (0,0) 0 (1099511627776:Int) (some ⟨S.blk,S.o,none⟩) S.Z.length c (s:Int) (.slice (some ⟨S.blk,aT S.o c k1,none⟩) (S.Z.length - k1) (c - k1)):=⟨rfl,rfl,rfl,S.o,1099511627776,s,k1,S.Z,rfl,hE,rfl,by decide,rfl,hk1,h1,rfl⟩
 have hE1:=hE.step hk1 (DC hk0 hk1 hlc) (c':=c - k1) (by omega)
 generalize h2:numR 256 (S.Z.drop k1)=q2
 obtain ⟨n,f2,z3⟩:=q2
 by_cases hf2:f2=0
 case neg=>
  have hr:dq S.Z=(f2,0,[]):=by unfold dq;rw [h1];simp only;rw [if_neg (by simp),h2];simp only;rw [if_pos hf2]
  rw [hr]
  have a2:ja S TG TG (0,0) 0 (IntKind.u64.wrap (256:Int)) (some ⟨S.blk,aT S.o c k1,none⟩) (S.Z.length - k1) (c - k1) f2:=⟨rfl,rfl,rfl,_,256,_,rfl,hE1,by decide,by decide,iu h2 hf2,hf2⟩
  have bE:=pW (cs0:=cs0) (s:=0) (acc:=[]) (n:=0) hX hM hK.base hf2
  refine eQ K (ah (O8 S (some ⟨S.blk,S.o,none⟩) S.Z.length c s (aT S.o c k1) (S.Z.length - k1) (c - k1) f2) ?_) (by kernel_rfl) bE
  simp only [af]
  repeat' apply And.intro
  all_goals first | exact True.intro | with_reducible assumption | with_reducible rfl | rfl
 subst hf2
 obtain ⟨k2,hk20,hk2,rfl,hnm⟩:=fa h2 hE1.oE
 rw [hE1.len] at hk2
 have a2:nL S TG aT TG (0,0) 0 (IntKind.u64.wrap (256:Int)) (some ⟨S.blk,aT S.o c k1,none⟩) (S.Z.length - k1) (c - k1) (n:Int) (.slice (some ⟨S.blk,aT (aT S.o c k1) (c - k1) k2,none⟩) (S.Z.length - k1 - k2) (c - k1 - k2)):=⟨rfl,rfl,rfl,_,256,n,k2,_,rfl,hE1,by decide,by decide,rfl,hk2,h2,rfl⟩
 have hE2:=hE1.step hk2 (DC hk20 hk2 hE1.lc) (c':=c - k1 - k2) (by omega)
 have hr:dq S.Z=((bh n ⟨#[]⟩ ((S.Z.drop k1).drop k2) []).1,s,(bh n ⟨#[]⟩ ((S.Z.drop k1).drop k2) []).2):=by unfold dq;rw [h1];simp only;rw [if_neg (by simp),h2];simp only;rw [if_neg (by simp)]
 rw [hr]
 have hwn:=lK hnm (by decide)
 have nx:=IA (cs0:=cs0) hX hM (s:=s) hK n _ _ _ _ hnm hE2
 refine eQ K (ah (N9 S (some ⟨S.blk,S.o,none⟩) S.Z.length c s n (aT S.o c k1) (S.Z.length - k1) (c - k1) (aT (aT S.o c k1) (c - k1) k2) (S.Z.length - k1 - k2) (c - k1 - k2)) ?_) (by kernel_rfl) (by rw [hwn];exact nx)
 simp only [af]
 repeat' apply And.intro
 all_goals first | exact True.intro | with_reducible assumption | with_reducible rfl | rfl
end ez
end paths
end Go.Proofs.YtcbokmadfcedaaaGreatDoor
set_option linter.unusedSimpArgs false
set_option linter.unusedVariables false
set_option maxRecDepth 100000
namespace Go.Proofs.YtcbokmadfcedaaaGreatDoor
open Go Go.Rx Go.RowKit Go.Proofs
namespace paths
namespace ez
noncomputable def J1 (S:Src):List (FuncId × Sum):=[(92,oY S TE aJ),(94,tJ S),(71,eD lH)]
noncomputable def jU (S:Src):Env:={ EP [] [] with sums:=fun f=>(J1 S).lookup f }
noncomputable def pB (S:Src) (a:Option Addr) (l c:Nat):SM:=(aS (jU S) 53 [.v (.slice a l c)] (bc 6 0 0 [])).getD dx
def eo (s:Int):Option (SO × Bool):=some (.row [.v (.int .u64 s),.v (.slice none 0 0)] 48 (0,0) none,true)
def vT (s:Int) (k:Nat):Option (SO × Bool):=some (.row [.v (.int .u64 s),.sl 3 0 k none] 48 (0,0) none,true)
noncomputable def Dt:List SI:=dC (jU S0) 2 400 (pB S0 none 0 0) (Je 0 0 0 0 0 0 0 0 S0)
noncomputable def kA (n i:Int):SF:={ fn:=53,tm:=gw 67 7 ([.aM,.aM,.ptr 0 0,.aM,.ptr 1 0,.ptr 2 0,.v (.int .i64 n),.v (.int .i64 i)]++List.replicate 59 .aM),todo:=Dt,defers:=[],ret:=false,kind:=.normal,ro:=none }
theorem Nj (S:Src) (a:Option Addr) (l c v kk o1 l1 c1 o2 l2 c2:Nat):reach (jU S) 2 400 (pB S a l c) (Je v kk o1 l1 c1 o2 l2 c2 S) [(0,0),(1,1),(2,2)] [] (kA (IntKind.i64.wrap kk) 0) 7 [eo 0,dS TE (some ⟨S.blk,o2,none⟩) l2 c2 0,eo v]=[0=0,0=0,0=0,vZ (IntKind.i64.wrap (↑kk:Int))=vZ (IntKind.i64.wrap (↑kk:Int)),vZ 0=vZ 0,Value.int IntKind.u64 0=Value.int IntKind.u64 0,Value.slice none 0 0=Value.slice none 0 0,Value.slice (some { block:=S.2,off:=o2:Addr }) l2 c2=Value.slice (some { block:=S.2,off:=o2:Addr }) l2 c2,vZ 0=vZ 0,Value.int IntKind.u64 (↑v:Int)=Value.int IntKind.u64 (↑v:Int),Value.slice none 0 0=Value.slice none 0 0,nL S 169 aJ 169 (0,0) 0 (IntKind.u64.wrap 256) (some { block:=S.2,off:=o1:Addr }) l1 c1 (↑kk:Int) (Value.slice (some { block:=S.2,off:=o2:Addr }) l2 c2),nL S 169 aJ 169 (0,0) 0 1099511627776 a l c (↑v:Int) (Value.slice (some { block:=S.2,off:=o1:Addr }) l1 c1)]:=by kernel_rfl
theorem eX (S:Src) (a:Option Addr) (l c v o1 l1 c1:Nat) (f':Int):reach (jU S) 2 400 (pB S a l c) [(0,.cells [.v (.int .u64 v),.v (.slice (some ⟨S.blk,o1,none⟩) l1 c1)]),(2,.cells [.v (.int .i64 f')]),(1000,.b true)] [(0,0),(1,1),(2,2)] [] (kA 0 0) 7 [eo 0,dS TE none 0 0 f',eo v]=[0=0,0=0,0=0,vZ (IntKind.i64.wrap 0)=vZ 0,vZ 0=vZ 0,Value.int IntKind.u64 0=Value.int IntKind.u64 0,Value.slice none 0 0=Value.slice none 0 0,Value.slice none 0 0=Value.slice none 0 0,vZ f'=vZ f',Value.int IntKind.u64 (↑v:Int)=Value.int IntKind.u64 (↑v:Int),Value.slice none 0 0=Value.slice none 0 0,ja S 169 169 (0,0) 0 (IntKind.u64.wrap 256) (some { block:=S.2,off:=o1:Addr }) l1 c1 f',nL S 169 aJ 169 (0,0) 0 1099511627776 a l c (↑v:Int) (Value.slice (some { block:=S.2,off:=o1:Addr }) l1 c1)]:=by kernel_rfl
theorem oQ (S:Src) (a:Option Addr) (l c:Nat) (f':Int):reach (jU S) 2 400 (pB S a l c) [(0,.cells [.v (.int .i64 f')]),(2,.b true),(1000,.b true)] [(0,0),(1,1),(2,2)] [] (kA 0 0) 7 [eo 0,dS TE none 0 0 f',eo 0]=[0=0,0=0,0=0,vZ (IntKind.i64.wrap 0)=vZ 0,vZ 0=vZ 0,Value.int IntKind.u64 0=Value.int IntKind.u64 0,Value.slice none 0 0=Value.slice none 0 0,Value.slice none 0 0=Value.slice none 0 0,vZ f'=vZ f',Value.int IntKind.u64 0=Value.int IntKind.u64 0,Value.slice none 0 0=Value.slice none 0 0,pJ 169 169 (0,0) f' (IntKind.u64.wrap 256) none 0 0,ja S 169 169 (0,0) 0 1099511627776 a l c f']:=by kernel_rfl
noncomputable def wU (n i:Int):SF:={ fn:=53,tm:=gw 67 7 ([.aM,.aM,.ptr 0 0,.aM,.ptr 1 0,.aM,.v (.int .i64 n),.v (.int .i64 i)]++List.replicate 59 .aM),todo:=Dt,defers:=[],ret:=false,kind:=.normal,ro:=none }
theorem MT (S:Src) (l1 c1 l2 c2 o1 o2 kk:Nat) (s n i i' f':Int) (last:ByteArray) (x:aD) (m m':List SV):reach (jU S) 2 400 (SM.at (kA n 0) 7 [eo 0,dS TE (some ⟨S.blk,o1,none⟩) l1 c1 0,eo s]) ([(0,.b true),(1,.b true),(2,.b true),(3,.b true),(4,.b true),(5,.b true),(7,.cells [.v (.agg #[.string x.p,.int .u64 x.v,.int .i64 x.k,.slice x.a x.l x.c]),.v (.slice (some ⟨S.blk,o2,none⟩) l2 c2)]),(1000,.b true)]) [(0,0),(1,1),(2,2),(3,5)] [3] (kA n i') 7 [eo 0,dS TE (some ⟨S.blk,o2,none⟩) l2 c2 0,vT s 1,kJ m']=[0=0,0=0,0=0,vZ n=vZ n,vZ (IntKind.i64.wrap (0+1))=vZ i',Value.int IntKind.u64 0=Value.int IntKind.u64 0,Value.slice none 0 0=Value.slice none 0 0,Value.slice (some { block:=S.2,off:=o2:Addr }) l2 c2=Value.slice (some { block:=S.2,off:=o2:Addr }) l2 c2,vZ 0=vZ 0,Value.int IntKind.u64 s=Value.int IntKind.u64 s,0=0∧1=1∧nZ=none,[]++List.take (1*4) (List.drop 0 (aX (List.replicate 1 (List.map SV.v [Value.string ⟨⟨[]⟩⟩,Value.int IntKind.u64 0,vZ 0,Value.slice none 0 0])).flatten (0*4) (List.take 4 (List.drop 0 (aX (List.map SV.v [Value.string ⟨⟨[]⟩⟩,Value.int IntKind.u64 0,vZ 0,Value.slice none 0 0]) 0 (List.map SV.v [Value.string x.1,Value.int IntKind.u64 x.2,vZ x.3,Value.slice x.4 x.5 x.6]))))))=m',m'.all ae=true,xC S 169 (0,0) 0 (some { block:=S.2,off:=o1:Addr }) l1 c1 { toList:=[Value.string x.1,Value.int IntKind.u64 x.2,vZ x.3,Value.slice x.4 x.5 x.6]:Array Value } (Value.slice (some { block:=S.2,off:=o2:Addr }) l2 c2),decide (0<n)=true,decide (0<n)=true,decide (0<n)=true,decide (0<n)=true,decide (0<n)=true,decide (0<n)=true]:=by kernel_rfl
theorem OD (S:Src) (l1 c1 l2 c2 o1 o2 kk:Nat) (s n i i' f':Int) (last:ByteArray) (x:aD) (m m':List SV):reach (jU S) 2 400 (SM.at (kA n i) 7 [eo 0,dS TE (some ⟨S.blk,o1,none⟩) l1 c1 0,vT s kk,kJ m]) ([(0,.b true),(1,.b true),(2,.b true),(3,.b true),(4,.b true),(5,.b true),(7,.cells [.v (.agg #[.string x.p,.int .u64 x.v,.int .i64 x.k,.slice x.a x.l x.c]),.v (.slice (some ⟨S.blk,o2,none⟩) l2 c2)]),(9,.b true),(10,.b true),(11,.b true),(12,.b true),(13,.b true),(15,.b true),(16,.b true),(17,.cells [.v (.string last)]),(18,.b true),(19,.b true),(20,.cells [.v (.string x.p)]),(21,.b true),(22,.b true),(23,.b true),(24,.b true),(25,.b false),(26,.app m [.v (.string x.p),.v (.int .u64 x.v),.v (.int .i64 x.k),.v (.slice x.a x.l x.c)]),(1000,.b true)]) [(0,0),(1,1),(2,2),(3,6)] [3] (kA n i') 7 [eo 0,dS TE (some ⟨S.blk,o2,none⟩) l2 c2 0,vT s (kk+1),kJ m']=[0=0,0=0,0=0,vZ n=vZ n,vZ (IntKind.i64.wrap (i+1))=vZ i',Value.int IntKind.u64 0=Value.int IntKind.u64 0,Value.slice none 0 0=Value.slice none 0 0,Value.slice (some { block:=S.2,off:=o2:Addr }) l2 c2=Value.slice (some { block:=S.2,off:=o2:Addr }) l2 c2,vZ 0=vZ 0,Value.int IntKind.u64 s=Value.int IntKind.u64 s,0=0∧kk+1=kk+1∧nZ=none,m++[SV.v (Value.string x.1),SV.v (Value.int IntKind.u64 x.2),SV.v (vZ x.3),SV.v (Value.slice x.4 x.5 x.6)]=m',m'.all ae=true,((List.take (1*4) (List.drop 0 (aX (List.replicate 1 (List.map SV.v [Value.string ⟨⟨[]⟩⟩,Value.int IntKind.u64 0,vZ 0,Value.slice none 0 0])).flatten (0*4) (List.take 4 (List.drop 0 (aX (List.map SV.v [Value.string ⟨⟨[]⟩⟩,Value.int IntKind.u64 0,vZ 0,Value.slice none 0 0]) 0 (List.map SV.v [Value.string x.1,Value.int IntKind.u64 x.2,vZ x.3,Value.slice x.4 x.5 x.6]))))))=[SV.v (Value.string x.1),SV.v (Value.int IntKind.u64 x.2),SV.v (vZ x.3),SV.v (Value.slice x.4 x.5 x.6)]∧[SV.v (Value.string x.1),SV.v (Value.int IntKind.u64 x.2),SV.v (vZ x.3),SV.v (Value.slice x.4 x.5 x.6)].length=1*4)∧1≠0∧(2*(kk+1)+1024)*56≤140737488355328)∧List.take (kk*4) m=m∧m.length=kk*4∧[SV.v (Value.string x.1),SV.v (Value.int IntKind.u64 x.2),SV.v (vZ x.3),SV.v (Value.slice x.4 x.5 x.6)].all SV.flat=true,decide (bF last x.1≥0)=false,decide (i>0)=true,decide (i>0)=true,last.size≤1000000000∧x.1.size≤1000000000,decide (i>0)=true,(aX (List.map SV.v [Value.string ⟨⟨[]⟩⟩,Value.int IntKind.u64 0,vZ 0,Value.slice none 0 0]) 0 (List.map SV.v [Value.string x.1,Value.int IntKind.u64 x.2,vZ x.3,Value.slice x.4 x.5 x.6]))[0]?=some (SV.v (Value.string x.1)),decide (i>0)=true,decide (i>0)=true,m[0+(IntKind.i64.wrap (i - 1)).toNat*4+0]?=some (SV.v (Value.string last)),decide (i>0)=true,decide (i>0)=true,ar (IntKind.i64.wrap (i - 1)) kk=true,decide (i>0)=true,decide (i>0)=true,decide (i>0)=true,decide (i>0)=true,decide (i>0)=true,xC S 169 (0,0) 0 (some { block:=S.2,off:=o1:Addr }) l1 c1 { toList:=[Value.string x.1,Value.int IntKind.u64 x.2,vZ x.3,Value.slice x.4 x.5 x.6]:Array Value } (Value.slice (some { block:=S.2,off:=o2:Addr }) l2 c2),decide (i<n)=true,decide (i<n)=true,decide (i<n)=true,decide (i<n)=true,decide (i<n)=true,decide (i<n)=true]:=by kernel_rfl
theorem Md (S:Src) (l1 c1 l2 c2 o1 o2 kk:Nat) (s n i i' f':Int) (last:ByteArray) (x:aD) (m m':List SV):reach (jU S) 2 400 (SM.at (kA n i) 7 [eo 0,dS TE (some ⟨S.blk,o1,none⟩) l1 c1 0,vT s kk,kJ m]) ([(0,.b true),(1,.b true),(2,.b true),(3,.b true),(4,.b true),(5,.b true),(7,.cells [.v (.agg #[.string x.p,.int .u64 x.v,.int .i64 x.k,.slice x.a x.l x.c]),.v (.slice (some ⟨S.blk,o2,none⟩) l2 c2)]),(9,.b true),(10,.b true),(11,.b true),(12,.b true),(13,.b true),(15,.b true),(16,.b true),(17,.cells [.v (.string last)]),(18,.b true),(19,.b true),(20,.cells [.v (.string x.p)]),(21,.b true),(22,.b true),(23,.b true),(24,.b true),(25,.b true),(26,.b true),(27,.b true),(28,.b true),(29,.b true),(1000,.b true)]) [(0,0),(1,1)] [] (wU n i') 7 [eo 0,dS TE none 0 0 10]=[0=0,0=0,vZ n=vZ n,vZ (IntKind.i64.wrap (i+1))=vZ i',Value.int IntKind.u64 0=Value.int IntKind.u64 0,Value.slice none 0 0=Value.slice none 0 0,Value.slice none 0 0=Value.slice none 0 0,vZ 10=vZ 10,true=true,true=true,true=true,true=true,decide (bF last x.1≥0)=true,decide (i>0)=true,decide (i>0)=true,last.size≤1000000000∧x.1.size≤1000000000,decide (i>0)=true,(aX (List.map SV.v [Value.string ⟨⟨[]⟩⟩,Value.int IntKind.u64 0,vZ 0,Value.slice none 0 0]) 0 (List.map SV.v [Value.string x.1,Value.int IntKind.u64 x.2,vZ x.3,Value.slice x.4 x.5 x.6]))[0]?=some (SV.v (Value.string x.1)),decide (i>0)=true,decide (i>0)=true,m[0+(IntKind.i64.wrap (i - 1)).toNat*4+0]?=some (SV.v (Value.string last)),decide (i>0)=true,decide (i>0)=true,ar (IntKind.i64.wrap (i - 1)) kk=true,decide (i>0)=true,decide (i>0)=true,decide (i>0)=true,decide (i>0)=true,decide (i>0)=true,xC S 169 (0,0) 0 (some { block:=S.2,off:=o1:Addr }) l1 c1 { toList:=[Value.string x.1,Value.int IntKind.u64 x.2,vZ x.3,Value.slice x.4 x.5 x.6]:Array Value } (Value.slice (some { block:=S.2,off:=o2:Addr }) l2 c2),decide (i<n)=true,decide (i<n)=true,decide (i<n)=true,decide (i<n)=true,decide (i<n)=true,decide (i<n)=true]:=by kernel_rfl
theorem mI (S:Src) (l1 c1 l2 c2 o1 o2 kk:Nat) (s n i i' f':Int) (last:ByteArray) (x:aD) (m m':List SV):reach (jU S) 2 400 (SM.at (kA n 0) 7 [eo 0,dS TE (some ⟨S.blk,o1,none⟩) l1 c1 0,eo s]) ([(0,.b true),(1,.b true),(2,.b true),(3,.b true),(4,.b true),(5,.b true),(7,.cells [.v (.int .i64 f')]),(8,.b true),(1000,.b true)]) [(0,0),(1,1)] [] (wU n i') 7 [eo 0,dS TE none 0 0 f']=[0=0,0=0,vZ n=vZ n,vZ (IntKind.i64.wrap (0+1))=vZ i',Value.int IntKind.u64 0=Value.int IntKind.u64 0,Value.slice none 0 0=Value.slice none 0 0,Value.slice none 0 0=Value.slice none 0 0,vZ f'=vZ f',(!f'==0)=true,ix S 169 169 (0,0) 0 (some { block:=S.2,off:=o1:Addr }) l1 c1 f',decide (0<n)=true,decide (0<n)=true,decide (0<n)=true,decide (0<n)=true,decide (0<n)=true,decide (0<n)=true]:=by kernel_rfl
theorem N1 (S:Src) (l1 c1 l2 c2 o1 o2 kk:Nat) (s n i i' f':Int) (last:ByteArray) (x:aD) (m m':List SV):reach (jU S) 2 400 (SM.at (kA n i) 7 [eo 0,dS TE (some ⟨S.blk,o1,none⟩) l1 c1 0,vT s kk,kJ m]) ([(0,.b true),(1,.b true),(2,.b true),(3,.b true),(4,.b true),(5,.b true),(7,.cells [.v (.int .i64 f')]),(8,.b true),(1000,.b true)]) [(0,0),(1,1)] [] (wU n i') 7 [eo 0,dS TE none 0 0 f']=[0=0,0=0,vZ n=vZ n,vZ (IntKind.i64.wrap (i+1))=vZ i',Value.int IntKind.u64 0=Value.int IntKind.u64 0,Value.slice none 0 0=Value.slice none 0 0,Value.slice none 0 0=Value.slice none 0 0,vZ f'=vZ f',(!f'==0)=true,ix S 169 169 (0,0) 0 (some { block:=S.2,off:=o1:Addr }) l1 c1 f',decide (i<n)=true,decide (i<n)=true,decide (i<n)=true,decide (i<n)=true,decide (i<n)=true,decide (i<n)=true]:=by kernel_rfl
theorem HT (S:Src) (l1 c1 l2 c2 o1 o2 kk:Nat) (s n i i' f':Int) (last:ByteArray) (x:aD) (m m':List SV):au (jU S) 53 400 (SM.at (wU n i) 7 [eo 0,dS TE none 0 0 f']) ([(0,.b true),(1,.b true),(2,.b true),(3,.b true),(4,.b true),(5,.b true),(6,.b false),(7,.b false),(8,.b false),(9,.b false),(10,.b false),(11,.b false),(12,.b false),(13,.b false),(15,.b true),(1000,.b true)]) (.tuple #[.agg #[.int .u64 0,.slice none 0 0],.int .i64 f'])=[Value.tuple { toList:=[Value.agg { toList:=[Value.int IntKind.u64 0,Value.slice none 0 0]:Array Value },vZ f']:Array Value }=Value.tuple { toList:=[Value.agg { toList:=[Value.int IntKind.u64 0,Value.slice none 0 0]:Array Value },vZ f']:Array Value },(!f'==0)=true,(f'==0)=false,(f'==0)=false,(f'==0)=false,(f'==0)=false,(f'==0)=false,(f'==0)=false,(f'==0)=false,(f'==0)=false,decide (i<n)=true,decide (i<n)=true,decide (i<n)=true,decide (i<n)=true,decide (i<n)=true,decide (i<n)=true]:=by kernel_rfl
theorem wY (S:Src) (l1 c1 l2 c2 o1 o2 kk:Nat) (s n i i' f':Int) (last:ByteArray) (x:aD) (m m':List SV):au (jU S) 53 400 (SM.at (wU n i) 7 [eo 0,dS TE none 0 0 f']) ([(0,.b false),(1,.b false),(2,.b false),(3,.b false),(4,.b false),(5,.b false),(7,.b false),(8,.b false),(9,.b false),(10,.b false),(11,.b false),(12,.b false),(13,.b false),(15,.b true),(1000,.b true)]) (.tuple #[.agg #[.int .u64 0,.slice none 0 0],.int .i64 f'])=[Value.tuple { toList:=[Value.agg { toList:=[Value.int IntKind.u64 0,Value.slice none 0 0]:Array Value },vZ f']:Array Value }=Value.tuple { toList:=[Value.agg { toList:=[Value.int IntKind.u64 0,Value.slice none 0 0]:Array Value },vZ f']:Array Value },(!f'==0)=true,(f'==0)=false,(f'==0)=false,(f'==0)=false,(f'==0)=false,(f'==0)=false,(f'==0)=false,(f'==0)=false,decide (i<n)=false,decide (i<n)=false,decide (i<n)=false,decide (i<n)=false,decide (i<n)=false,decide (i<n)=false]:=by kernel_rfl
theorem II (S:Src) (l1 c1 l2 c2 o1 o2 kk:Nat) (s n i i' f':Int) (last:ByteArray) (x:aD) (m m':List SV):au (jU S) 53 400 (SM.at (kA n i) 7 [eo 0,dS TE (some ⟨S.blk,o1,none⟩) l1 c1 0,eo s]) ([(0,.b false),(1,.b false),(2,.b false),(3,.b false),(4,.b false),(5,.b false),(14,.b true),(1000,.b true)]) (.tuple #[.agg #[.int .u64 0,.slice none 0 0],.int .i64 12])=[Value.tuple { toList:=[Value.agg { toList:=[Value.int IntKind.u64 0,Value.slice none 0 0]:Array Value },vZ 12]:Array Value }=Value.tuple { toList:=[Value.agg { toList:=[Value.int IntKind.u64 0,Value.slice none 0 0]:Array Value },vZ 12]:Array Value },decide ((↑l1:Int)>0)=true,decide (i<n)=false,decide (i<n)=false,decide (i<n)=false,decide (i<n)=false,decide (i<n)=false,decide (i<n)=false]:=by kernel_rfl
theorem N2 (S:Src) (l1 c1 l2 c2 o1 o2 kk:Nat) (s n i i' f':Int) (last:ByteArray) (x:aD) (m m':List SV):au (jU S) 53 400 (SM.at (kA n i) 7 [eo 0,dS TE (some ⟨S.blk,o1,none⟩) l1 c1 0,vT s kk,kJ m]) ([(0,.b false),(1,.b false),(2,.b false),(3,.b false),(4,.b false),(5,.b false),(14,.b true),(1000,.b true)]) (.tuple #[.agg #[.int .u64 0,.slice none 0 0],.int .i64 12])=[Value.tuple { toList:=[Value.agg { toList:=[Value.int IntKind.u64 0,Value.slice none 0 0]:Array Value },vZ 12]:Array Value }=Value.tuple { toList:=[Value.agg { toList:=[Value.int IntKind.u64 0,Value.slice none 0 0]:Array Value },vZ 12]:Array Value },decide ((↑l1:Int)>0)=true,decide (i<n)=false,decide (i<n)=false,decide (i<n)=false,decide (i<n)=false,decide (i<n)=false,decide (i<n)=false]:=by kernel_rfl
theorem LD (S:Src) (l1 c1 l2 c2 o1 o2 kk:Nat) (s n i i' f':Int) (last:ByteArray) (x:aD) (m m':List SV):au (jU S) 53 400 (SM.at (kA n i) 7 [eo 0,dS TE (some ⟨S.blk,o1,none⟩) l1 c1 0,eo s]) ([(0,.b false),(1,.b false),(2,.b false),(3,.b false),(4,.b false),(5,.b false),(14,.b false),(1000,.b true)]) (.tuple #[.agg #[.int .u64 s,.slice none 0 0],.int .i64 0])=[Value.tuple { toList:=[Value.agg { toList:=[Value.int IntKind.u64 s,Value.slice none 0 0]:Array Value },vZ 0]:Array Value }=Value.tuple { toList:=[Value.agg { toList:=[Value.int IntKind.u64 s,Value.slice none 0 0]:Array Value },vZ 0]:Array Value },decide ((↑l1:Int)>0)=false,decide (i<n)=false,decide (i<n)=false,decide (i<n)=false,decide (i<n)=false,decide (i<n)=false,decide (i<n)=false]:=by kernel_rfl
theorem NO (S:Src) (l1 c1 l2 c2 o1 o2 kk:Nat) (s n i i' f':Int) (last:ByteArray) (x:aD) (m m':List SV):aB (jU S) 53 400 (SM.at (kA n i) 7 [eo 0,dS TE (some ⟨S.blk,o1,none⟩) l1 c1 0,vT s kk,kJ m]) ([(0,.b false),(1,.b false),(2,.b false),(3,.b false),(4,.b false),(5,.b false),(14,.b false),(1000,.b true)]) [(0,3)] [0] (.tup [.agg [.v (.int .u64 s),.sl 0 0 kk none],.v (.int .i64 0)]) [kJ m]=[Value.int IntKind.u64 s=Value.int IntKind.u64 s,0=0∧kk=kk∧nZ=none,vZ 0=vZ 0,m=m,m.all ae=true,decide ((↑l1:Int)>0)=false,decide (i<n)=false,decide (i<n)=false,decide (i<n)=false,decide (i<n)=false,decide (i<n)=false,decide (i<n)=false]:=by kernel_rfl
end ez
end paths
end Go.Proofs.YtcbokmadfcedaaaGreatDoor
set_option linter.unusedSimpArgs false
set_option linter.unusedVariables false
set_option maxRecDepth 100000
namespace Go.Proofs.YtcbokmadfcedaaaGreatDoor
open Go Go.Rx Go.RowKit Go.Proofs
namespace paths
namespace ez
open eye (numR numR_cons u64_in)
def GJ (S:Src) (x:aD) (y:c7):Prop:=x.p=y.1∧x.v=(y.2.1:Int)∧x.k=(y.2.2.1:Int)∧xo y.1 y.2.1 y.2.2.1 y.2.2.2∧
 ((y.2.2.1≠1∧x.a=none∧x.l=0∧x.c=0)∨(y.2.2.1=1∧∃ oo l c zs rest,mf S oo l c zs∧dT zs=(some y,0,rest)∧x.a=some ⟨S.blk,(dO aJ zs oo c).1,none⟩∧x.l=y.2.2.2.length∧x.c=(dO aJ zs oo c).2))
def iI (S:Src):List aD→List c7→Prop
 | [],[]=>True
 | x::xs,y::ys=>GJ S x y∧iI S xs ys
 | _,_=>False
theorem iI.snoc {S:Src} {x:aD} {y:c7} (h:GJ S x y):∀ {xs:List aD} {ys:List c7},iI S xs ys→iI S (xs++[x]) (ys++[y])
 | [],[],_=>⟨h,trivial⟩
 | a::xs,b::ys,hh=>⟨hh.1,iI.snoc h hh.2⟩
theorem iI.last {S:Src} {x:aD} {y:c7}:∀ {xs:List aD} {ys:List c7},iI S (xs++[x]) (ys++[y])→GJ S x y
 | [],[],h=>h.1
 | [],b::ys,h=>by
  cases ys with
  | nil=>exact absurd h.2 (by simp [iI])
  | cons c ys=>exact absurd h.2 (by simp [iI])
 | a::xs,[],h=>by
  cases xs with
  | nil=>exact absurd h.2 (by simp [iI])
  | cons c xs=>exact absurd h.2 (by simp [iI])
 | a::xs,b::ys,h=>iI.last (xs:=xs) (ys:=ys) h.2
def Bk (S : Src) (W : World) (s : Nat) (r : Int × List c7) (e : Ending) (w' : World) : Prop := Below W.heap.size W w' ∧
  ((r.1 ≠ 0 ∧ e = .returned (.tuple #[.agg #[.int .u64 0, .slice none 0 0], .int .i64 r.1])) ∨
   (r.1 = 0 ∧ r.2 = [] ∧ e = .returned (.tuple #[.agg #[.int .u64 s, .slice none 0 0], .int .i64 0])) ∨
   (r.1 = 0 ∧ ∃ b c xs rest fz, W.heap.size ≤ b ∧ e = .returned (.tuple #[.agg #[.int .u64 s, .slice (some ⟨b, 0, none⟩) xs.length c], .int .i64 0]) ∧ w'.heap[b]? = some (.cells (vE xs ++ rest).toArray Ic fz) ∧ xs ≠ [] ∧ xs.length ≤ 256 ∧ iI S xs r.2 ∧ xs.length ≤ c))
theorem HL {S:Src} {M0 M:Own} {w00 w0:World} (hM:∀ z,¬ M0 z) (hB:bk M0 w00 M w0) (hX:XS S w00):aE (jU S) M w0:=
 aE.AR (Checked.mixed Tryz.checked) (by kernel_rfl) (eR.of ji rfl dL) (cV.oI (X:=XS S) (l:=J1 S) rfl (fun r h=>by
  simp only [J1,List.mem_cons,List.not_mem_nil,or_false] at h
  rcases h with rfl | rfl | rfl
  ·exact mW.HP F3
  ·exact Dy
  ·exact (CA (cF.pure (r:=(71,lH)) Ft) fun w h=>trivial).t) fun ν s w hr _=>hX.cr fun k hk=>(hr.frame k (Nat.lt_of_lt_of_le hk hB.size) (hB.frame k hk (hM k)).2).trans (hB.frame k hk (hM k)).1) (fun f g h=>by cases h)
theorem jD {S:Src} {M:Own} {w0:World} {cs0:List Frame} {f:FuncId} {R:Ending→World→Prop} {k n d:Nat} {St:SM} {o:List (Nat × c9)} {ren:List (Nat × Nat)} {eqs:List Nat} {F:SF} {l:List (Option (SO × Bool))} (K:aE (jU S) M w0) (h:cp (Go.Rx.reach (jU S) k n St o ren eqs F d l)) (ht:dC (jU S) k n St o=F.todo)
  (hs:ao (jU S) M w0 cs0 f R (ax []) (SM.at F d l)):ao (jU S) M w0 cs0 f R (ax []) St:=ao.reach K h.out ht (fun i b h=>by simp [ax] at h) hs
theorem BV {S:Src} {M:Own} {w0:World} {cs0:List Frame} {f:FuncId} {R:Ending→World→Prop} {n:Nat} {St:SM} {o:List (Nat × c9)} {v:Value} (K:aE (jU S) M w0) (h:cp (Go.Rx.au (jU S) f n St o v)) (hR:∀ ν' M1 w1 s' w',bk M w0 M1 w1→HR ν' M1 w1 s' w'→R (.returned v) w'):ao (jU S) M w0 cs0 f R (ax []) St:=ao.au K h.out fun ν' M1 w1 s' w' _ hB hr=>hR ν' M1 w1 s' w' hB hr
theorem Im {S:Src} {M:Own} {w0:World} {cs0:List Frame} {f:FuncId} {R:Ending→World→Prop} {n:Nat} {St:SM} {o:List (Nat × c9)} {ren:List (Nat × Nat)} {eqs:List Nat} {x:SV} {l:List (Option (SO × Bool))} (K:aE (jU S) M w0) (h:cp (Go.Rx.aB (jU S) f n St o ren eqs x l))
  (hR:∀ ν' w' y,VR (ν'.ren ren) x y→yg (ν'.ren ren) M w0 w' l→(∃ M1 w1 s',bk M w0 M1 w1∧HR ν' M1 w1 s' w')→R (.returned y) w'):ao (jU S) M w0 cs0 f R (ax []) St:=ao.aB K h.out fun ν' w' y _=>hR ν' w' y
section
variable {S:Src} {W:World} {M:Own} {cs0:List Frame}
theorem lY (hX:XS S W) (hM:∀ z,¬ M z) {M1:Own} {w1:World} (hB:bk M W M1 w1) {n i f':Int} (hf:f'≠0) {s:Nat} {acc:List c7}:ao (jU S) M1 w1 cs0 53 (Bk S W s (f',acc)) (ax []) (SM.at (wU n i) 7 [eo 0,dS TE none 0 0 f']):=by
 have K:=HL hM hB hX
 have e1:=oP hf
 have e2:=gP hf
 have fin:∀ ν' M2 w2 s' w',bk M1 w1 M2 w2→HR ν' M2 w2 s' w'→Bk S W s (f',acc) (.returned (.tuple #[.agg #[.int .u64 0,.slice none 0 0],.int .i64 f'])) w':=fun ν' M2 w2 s' w' hB2 hr=>⟨aG hM (hB.trans hB2) hr,.inl ⟨hf,rfl⟩⟩
 cases hn:decide (i<n)
 ·refine BV K (ah (wY S 0 0 0 0 0 0 0 0 n i 0 f' ⟨#[]⟩ fE [] []) ?_) fin
  simp only [af]
  repeat' apply And.intro
  all_goals first | exact True.intro | with_reducible assumption | with_reducible rfl | rfl
 ·refine BV K (ah (HT S 0 0 0 0 0 0 0 0 n i 0 f' ⟨#[]⟩ fE [] []) ?_) fin
  simp only [af]
  repeat' apply And.intro
  all_goals first | exact True.intro | with_reducible assumption | with_reducible rfl | rfl
end
theorem zF {j:Nat} (h:j≤1000):IntKind.i64.wrap ((j:Int)+(1:Int))=((j+1:Nat):Int):=by rw [show (j:Int)+1=((j+1:Nat):Int) by omega];exact IntWalk.i64_in _ (by omega)
section
variable {S:Src} {W:World} {M:Own} {cs0:List Frame}
set_option maxHeartbeats 4000000 in
theorem FJ (hX:XS S W) (hM:∀ z,¬ M z) {s:Nat}:∀ (j:Nat) (zs:List Int) (o1 l1 c1:Nat) (H:Hp) (M1:Own) (w1:World) (k n:Nat) (xs:List aD) (y0:aD) (a0:List c7) (x0:c7),Kept W.hp M W H M1 w1→iI S (xs++[y0]) (a0++[x0])→xs.length=k→n=k+1+j→n≤256→mf S o1 l1 c1 zs→
  ao (jU S) M1 w1 cs0 53 (Bk S W s (bh j x0.1 zs (a0++[x0]))) (ax []) (SM.at (kA (n:Int) ((k+1:Nat):Int)) 7 [eo 0,dS TE (some ⟨S.blk,o1,none⟩) l1 c1 0,vT s (k+1),kJ (cE (xs++[y0]))])
 | 0,zs,o1,l1,c1,H,M1,w1,k,n,xs,y0,a0,x0,hk,hA,hlen0,hn0,dF,hE=>by
  have K:=HL hM hk.base hX
  have hn:decide (((k+1:Nat):Int)<(n:Int))=false:=decide_eq_false (by omega)
  have hlen:=hE.len
  by_cases hz:zs=[]
  ·have hr:bh 0 x0.1 zs (a0++[x0])=(0,a0++[x0]):=by unfold bh;rw [if_pos hz]
   rw [hr]
   have hl:decide ((l1:Int)>(0:Int))=false:=by rw [hz] at hlen;simp at hlen;rw [← hlen];decide
   have hcl:=dI (xs++[y0])
   refine Im K (ah (NO S l1 c1 0 0 o1 0 (k+1) s (n:Int) ((k+1:Nat):Int) 0 0 ⟨#[]⟩ fE (cE (xs++[y0])) []) ?_) fun ν' w' y hv hEM hh=>?_
   ·simp only [af]
    repeat' apply And.intro
    all_goals first | exact True.intro | with_reducible assumption | with_reducible rfl | rfl
   obtain ⟨M3,w3,s',hB,hr⟩:=hh
   have hbel:=aG hM (hk.base.trans hB) hr
   obtain ⟨ta,rfl,hta⟩:=VR.bN.1 hv
   obtain ⟨y1,ta1,rfl,q1,hta1⟩:=hta.cons_inv
   obtain ⟨y2,ta2,rfl,q2,hta2⟩:=hta1.cons_inv
   obtain rfl:=hta2.aq
   obtain ⟨tb,rfl,htb⟩:=VR.aW.1 q1
   obtain ⟨y3,tb1,rfl,q3,htb1⟩:=htb.cons_inv
   obtain ⟨y4,tb2,rfl,q4,htb2⟩:=htb1.cons_inv
   obtain rfl:=htb2.aq
   obtain rfl:=VR.ab.1 q2
   obtain rfl:=VR.ab.1 q3
   obtain ⟨g,eg,hgl,rfl⟩:=VR.ay.1 q4
   have hcap0:k+1≤g.2 - 0:=hgl
   obtain ⟨b',ob,hb',ho,hor,hw⟩:=hEM.obj 0 _ _ rfl
   rw [eg] at hb';cases hb'
   obtain ⟨zs',rest,rfl,hz',hx⟩:=hor
   obtain rfl:=DG hz'
   refine ⟨hbel,.inr (.inr ⟨rfl,g.1,g.2,xs++[y0],rest,_,pd (M3:=M3) (w3:=w3) hM hk (hw rfl),?_,ho,by simp,by rw [List.length_append,List.length_singleton];omega,hA,by rw [List.length_append,List.length_singleton];omega⟩)⟩
   rw [List.length_append,List.length_singleton,hlen0]
   rfl
  ·have hr:bh 0 x0.1 zs (a0++[x0])=(12,[]):=by unfold bh;rw [if_neg hz]
   rw [hr]
   have hl:decide ((l1:Int)>(0:Int))=true:=decide_eq_true (by
    have:zs.length≠0:=fun h=>hz (List.length_eq_zero_iff.1 h)
    omega)
   refine BV K (ah (N2 S l1 c1 0 0 o1 0 (k+1) s (n:Int) ((k+1:Nat):Int) 0 0 ⟨#[]⟩ fE (cE (xs++[y0])) []) ?_) fun ν' M2 w2 s' w' hB2 hr=>⟨aG hM (hk.base.trans hB2) hr,.inl ⟨by decide,rfl⟩⟩
   simp only [af]
   repeat' apply And.intro
   all_goals first | exact True.intro | with_reducible assumption | with_reducible rfl | rfl
 | j+1,zs,o1,l1,c1,H,M1,w1,k,n,xs,y0,a0,x0,hk,hA,hlen0,hn0,dF,hE=>by
  have K:=HL hM hk.base hX
  have hn:decide (((k+1:Nat):Int)<(n:Int))=true:=decide_eq_true (by omega)
  have hi:decide (((k+1:Nat):Int)>(0:Int))=true:=decide_eq_true (by omega)
  have hw:Value.int IntKind.i64 (IntKind.i64.wrap (((k+1:Nat):Int)+(1:Int)))=Value.int IntKind.i64 ((k+1+1:Nat):Int):=by rw [zF (by omega)]
  obtain ⟨y0p,y0v,y0k,hI0,_⟩:=hA.last
  have hfull:x0.1≠⟨⟨[]⟩⟩:=nd (x:=⟨x0.1,x0.2.1,x0.2.2.1,none,x0.2.2.2.length,0⟩) hI0.chk
  have hls:=hI0.size
  have hlast:(cE (xs++[y0]))[(0:Nat)+(IntKind.i64.wrap (((k+1:Nat):Int) - (1:Int))).toNat*(4:Nat)+(0:Nat)]?=some (SV.v (Value.string x0.1)):=by
   rw [pk (by omega),Int.toNat_natCast,← y0p]
   exact BU (by rw [← hlen0];simp)
  have hin:ar (IntKind.i64.wrap (((k+1:Nat):Int) - (1:Int))) (k+1)=true:=by
   rw [pk (by omega)]
   unfold ar
   simp
   omega
  have hlm:(cE (xs++[y0])).length=(k+1)*(4:Nat):=by rw [uG,List.length_append,List.length_singleton,hlen0]
  have htk:List.take ((k+1)*(4:Nat)) (cE (xs++[y0]))=cE (xs++[y0]):=List.take_of_length_le (by omega)
  have hfew:((2:Nat)*(k+1+(1:Nat))+(1024:Nat))*(56:Nat)≤(140737488355328:Nat):=by omega
  generalize hent:dT zs=q
  obtain ⟨ox,f,rest⟩:=q
  cases ox with
  | none=>
   obtain ⟨hf,rfl⟩:=ko hent
   have hr:bh (j+1) x0.1 zs (a0++[x0])=(f,[]):=by unfold bh;rw [hent]
   rw [hr]
   have hQ:ix S TE TE (0,0) 0 (some ⟨S.blk,o1,none⟩) l1 c1 f:=⟨rfl,rfl,rfl,o1,zs,rfl,hE,hent,hf⟩
   have e2:=gP hf
   have e1:=oP hf
   have bE:=lY (cs0:=cs0) (s:=s) (acc:=[]) (n:=(n:Int)) (i:=((k+1+1:Nat):Int)) hX hM hk.base hf
   refine jD K (ah (N1 S l1 c1 0 0 o1 0 (k+1) s (n:Int) ((k+1:Nat):Int) ((k+1+1:Nat):Int) f ⟨#[]⟩ fE (cE (xs++[y0])) []) ?_) (by kernel_rfl) bE
   simp only [af]
   repeat' apply And.intro
   all_goals first | exact True.intro | with_reducible assumption | with_reducible rfl | rfl
  | some x=>
   obtain ⟨p,v,kk,d⟩:=x
   obtain ⟨rfl,hI⟩:=ij hent
   obtain ⟨k2,h0,h1,rfl,hAd,hc'⟩:=mL qA (o:=o1) (c:=c1) hent hE.oE (by rw [hE.len];exact hE.lc)
   generalize hpp:eH aJ zs o1 c1=pp at hAd hc'
   obtain ⟨o2,c2⟩:=pp
   dsimp only at hAd hc'
   rw [hE.len] at h1 hAd hc'
   have hE2:=hE.step h1 hAd hc'
   have hxs:=hI.size
   obtain ⟨x,hxp,hxv,hxk,hxd⟩:∃ x:aD,x.p=p∧x.v=(v:Int)∧x.k=(kk:Int)∧((kk≠1∧x.a=none∧x.l=0∧x.c=0)∨(kk=1∧x.a=some ⟨S.blk,(dO aJ zs o1 c1).1,none⟩∧x.l=d.length∧x.c=(dO aJ zs o1 c1).2)):=by
    by_cases h:kk=1
    ·exact ⟨⟨p,v,kk,some ⟨S.blk,(dO aJ zs o1 c1).1,none⟩,d.length,(dO aJ zs o1 c1).2⟩,rfl,rfl,rfl,.inr ⟨h,rfl,rfl,rfl⟩⟩
    ·exact ⟨⟨p,v,kk,none,0,0⟩,rfl,rfl,rfl,.inl ⟨h,rfl,rfl,rfl⟩⟩
   have hIs:GJ S x (p,v,kk,d):=⟨hxp,hxv,hxk,hI,hxd.imp id fun h=>⟨h.1,o1,l1,c1,zs,_,hE,hent,h.2⟩⟩
   have hQ:xC S TE (0,0) 0 (some ⟨S.blk,o1,none⟩) l1 c1 #[.string x.p,.int .u64 x.v,.int .i64 x.k,.slice x.a x.l x.c] (.slice (some ⟨S.blk,o2,none⟩) (l1 - k2) c2):=by
    refine ⟨rfl,rfl,rfl,o1,v,kk,k2,o2,c2,zs,d,p,.slice x.a x.l x.c,rfl,hE,hent,h1,hpp.symm,by rw [hxp,hxv,hxk],rfl,?_⟩
    rcases hxd with ⟨a,b,c,e⟩ | ⟨a,b,c,e⟩
    ·exact .inl ⟨a,by rw [b,c,e]⟩
    ·exact .inr ⟨a,by rw [b,c,e]⟩
   have hxs2:x.p.size≤1000000000:=by rw [hxp];exact hxs
   by_cases hcmp:0≤bF x0.1 p
   ·have hr:bh (j+1) x0.1 zs (a0++[x0])=(10,[]):=by
     unfold bh;rw [hent];simp only
     rw [if_pos ⟨hfull,hcmp⟩]
    rw [hr]
    have hcm:decide (bF x0.1 x.p≥(0:Int))=true:=decide_eq_true (by rw [hxp];exact hcmp)
    have bE:=lY (cs0:=cs0) (s:=s) (acc:=[]) (n:=(n:Int)) (i:=((k+1+1:Nat):Int)) hX hM hk.base (f':=10) (by decide)
    refine jD K (ah (Md S l1 c1 (l1 - k2) c2 o1 o2 (k+1) s (n:Int) ((k+1:Nat):Int) ((k+1+1:Nat):Int) 0 x0.1 x (cE (xs++[y0])) []) ?_) (by kernel_rfl) bE
    simp only [af]
    repeat' apply And.intro
    all_goals first | exact True.intro | with_reducible assumption | with_reducible rfl | rfl | decide
   ·have hr:bh (j+1) x0.1 zs (a0++[x0])=bh j p (zs.drop k2) ((a0++[x0])++[(p,v,kk,d)]):=by
     rw [iA hent]
     rw [if_neg fun h=>hcmp h.2]
    rw [hr]
    have hcm:decide (bF x0.1 x.p≥(0:Int))=false:=decide_eq_false (by rw [hxp];exact hcmp)
    have hmm:cE (xs++[y0])++[SV.v (Value.string x.1),SV.v (Value.int IntKind.u64 x.2),SV.v (Value.int IntKind.i64 x.3),SV.v (Value.slice x.4 x.5 x.6)]=cE ((xs++[y0])++[x]):=by
     rw [CG (xs++[y0]) [x],wZ];rfl
    have hcl:=dI ((xs++[y0])++[x])
    have nx:=FJ hX hM (s:=s) j (zs.drop k2) o2 (l1 - k2) c2 H M1 w1 (k+1) n (xs++[y0]) x (a0++[x0]) (p,v,kk,d) hk (iI.snoc hIs hA) (by rw [List.length_append,List.length_singleton,hlen0]) (by omega) dF hE2
    refine jD K (ah (OD S l1 c1 (l1 - k2) c2 o1 o2 (k+1) s (n:Int) ((k+1:Nat):Int) ((k+1+1:Nat):Int) 0 x0.1 x (cE (xs++[y0])) (cE ((xs++[y0])++[x]))) ?_) (by kernel_rfl) nx
    simp only [af]
    repeat' apply And.intro
    all_goals first | exact True.intro | with_reducible assumption | with_reducible rfl | rfl | decide
end
theorem Lz (S:Src) (a:Option Addr) (l c v o1 l1 c1:Nat) (f':Int):reach (jU S) 2 400 (pB S a l c) [(0,.cells [.v (.int .u64 v),.v (.slice (some ⟨S.blk,o1,none⟩) l1 c1)]),(2,.cells [.v (.int .i64 f')]),(1000,.b true)] [(0,0),(1,1)] [] (wU 0 0) 7 [eo 0,dS TE none 0 0 f']=[0=0,0=0,vZ (IntKind.i64.wrap 0)=vZ 0,vZ 0=vZ 0,Value.int IntKind.u64 0=Value.int IntKind.u64 0,Value.slice none 0 0=Value.slice none 0 0,Value.slice none 0 0=Value.slice none 0 0,vZ f'=vZ f',ja S 169 169 (0,0) 0 (IntKind.u64.wrap 256) (some { block:=S.2,off:=o1:Addr }) l1 c1 f',nL S 169 aJ 169 (0,0) 0 1099511627776 a l c (↑v:Int) (Value.slice (some { block:=S.2,off:=o1:Addr }) l1 c1)]:=by kernel_rfl
theorem Jx (S:Src) (a:Option Addr) (l c:Nat) (f':Int):reach (jU S) 2 400 (pB S a l c) [(0,.cells [.v (.int .i64 f')]),(2,.b true),(1000,.b true)] [(0,0),(1,1)] [] (wU 0 0) 7 [eo 0,dS TE none 0 0 f']=[0=0,0=0,vZ (IntKind.i64.wrap 0)=vZ 0,vZ 0=vZ 0,Value.int IntKind.u64 0=Value.int IntKind.u64 0,Value.slice none 0 0=Value.slice none 0 0,Value.slice none 0 0=Value.slice none 0 0,vZ f'=vZ f',pJ 169 169 (0,0) f' (IntKind.u64.wrap 256) none 0 0,ja S 169 169 (0,0) 0 1099511627776 a l c f']:=by kernel_rfl
section
variable {S:Src} {W:World} {M:Own} {cs0:List Frame}
set_option maxHeartbeats 4000000 in
theorem Hc (hX:XS S W) (hM:∀ z,¬ M z) {s:Nat} {H:Hp} {M1:Own} {w1:World} (hk:Kept W.hp M W H M1 w1):∀ (n:Nat) (zs:List Int) (o1 l1 c1:Nat),n≤256→mf S o1 l1 c1 zs→
  ao (jU S) M1 w1 cs0 53 (Bk S W s (bh n ⟨#[]⟩ zs [])) (ax []) (SM.at (kA (n:Int) 0) 7 [eo 0,dS TE (some ⟨S.blk,o1,none⟩) l1 c1 0,eo s])
 | 0,zs,o1,l1,c1,dF,hE=>by
  have K:=HL hM hk.base hX
  have hn:decide ((0:Int)<((0:Nat):Int))=false:=by decide
  have hlen:=hE.len
  by_cases hz:zs=[]
  ·have hr:bh 0 ⟨#[]⟩ zs []=(0,[]):=by unfold bh;rw [if_pos hz]
   rw [hr]
   have hl:decide ((l1:Int)>(0:Int))=false:=by rw [hz] at hlen;simp at hlen;rw [← hlen];decide
   refine BV K (ah (LD S l1 c1 0 0 o1 0 0 s ((0:Nat):Int) 0 0 0 ⟨#[]⟩ fE [] []) ?_) fun ν' M2 w2 s' w' hB2 hr=>⟨aG hM (hk.base.trans hB2) hr,.inr (.inl ⟨rfl,rfl,rfl⟩)⟩
   simp only [af]
   repeat' apply And.intro
   all_goals first | exact True.intro | with_reducible assumption | with_reducible rfl | rfl
  ·have hr:bh 0 ⟨#[]⟩ zs []=(12,[]):=by unfold bh;rw [if_neg hz]
   rw [hr]
   have hl:decide ((l1:Int)>(0:Int))=true:=decide_eq_true (by
    have:zs.length≠0:=fun h=>hz (List.length_eq_zero_iff.1 h)
    omega)
   refine BV K (ah (II S l1 c1 0 0 o1 0 0 s ((0:Nat):Int) 0 0 0 ⟨#[]⟩ fE [] []) ?_) fun ν' M2 w2 s' w' hB2 hr=>⟨aG hM (hk.base.trans hB2) hr,.inl ⟨by decide,rfl⟩⟩
   simp only [af]
   repeat' apply And.intro
   all_goals first | exact True.intro | with_reducible assumption | with_reducible rfl | rfl
 | j+1,zs,o1,l1,c1,dF,hE=>by
  have K:=HL hM hk.base hX
  have hn:decide ((0:Int)<((j+1:Nat):Int))=true:=decide_eq_true (by omega)
  have hw:Value.int IntKind.i64 (IntKind.i64.wrap ((0:Int)+(1:Int)))=Value.int IntKind.i64 ((0+1:Nat):Int):=by rw [show IntKind.i64.wrap ((0:Int)+(1:Int))=((0+1:Nat):Int) from zF (j:=0) (by omega)]
  generalize hent:dT zs=q
  obtain ⟨ox,f,rest⟩:=q
  cases ox with
  | none=>
   obtain ⟨hf,rfl⟩:=ko hent
   have hr:bh (j+1) ⟨#[]⟩ zs []=(f,[]):=by unfold bh;rw [hent]
   rw [hr]
   have hQ:ix S TE TE (0,0) 0 (some ⟨S.blk,o1,none⟩) l1 c1 f:=⟨rfl,rfl,rfl,o1,zs,rfl,hE,hent,hf⟩
   have e2:=gP hf
   have e1:=oP hf
   have bE:=lY (cs0:=cs0) (s:=s) (acc:=[]) (n:=((j+1:Nat):Int)) (i:=((0+1:Nat):Int)) hX hM hk.base hf
   refine jD K (ah (mI S l1 c1 0 0 o1 0 0 s ((j+1:Nat):Int) 0 ((0+1:Nat):Int) f ⟨#[]⟩ fE [] []) ?_) (by kernel_rfl) bE
   simp only [af]
   repeat' apply And.intro
   all_goals first | exact True.intro | with_reducible assumption | with_reducible rfl | rfl
  | some x=>
   obtain ⟨p,v,kk,d⟩:=x
   obtain ⟨rfl,hI⟩:=ij hent
   obtain ⟨k2,h0,h1,rfl,hAd,hc'⟩:=mL qA (o:=o1) (c:=c1) hent hE.oE (by rw [hE.len];exact hE.lc)
   generalize hpp:eH aJ zs o1 c1=pp at hAd hc'
   obtain ⟨o2,c2⟩:=pp
   dsimp only at hAd hc'
   rw [hE.len] at h1 hAd hc'
   have hE2:=hE.step h1 hAd hc'
   obtain ⟨x,hxp,hxv,hxk,hxd⟩:∃ x:aD,x.p=p∧x.v=(v:Int)∧x.k=(kk:Int)∧((kk≠1∧x.a=none∧x.l=0∧x.c=0)∨(kk=1∧x.a=some ⟨S.blk,(dO aJ zs o1 c1).1,none⟩∧x.l=d.length∧x.c=(dO aJ zs o1 c1).2)):=by
    by_cases h:kk=1
    ·exact ⟨⟨p,v,kk,some ⟨S.blk,(dO aJ zs o1 c1).1,none⟩,d.length,(dO aJ zs o1 c1).2⟩,rfl,rfl,rfl,.inr ⟨h,rfl,rfl,rfl⟩⟩
    ·exact ⟨⟨p,v,kk,none,0,0⟩,rfl,rfl,rfl,.inl ⟨h,rfl,rfl,rfl⟩⟩
   have hIs:GJ S x (p,v,kk,d):=⟨hxp,hxv,hxk,hI,hxd.imp id fun h=>⟨h.1,o1,l1,c1,zs,_,hE,hent,h.2⟩⟩
   have hQ:xC S TE (0,0) 0 (some ⟨S.blk,o1,none⟩) l1 c1 #[.string x.p,.int .u64 x.v,.int .i64 x.k,.slice x.a x.l x.c] (.slice (some ⟨S.blk,o2,none⟩) (l1 - k2) c2):=by
    refine ⟨rfl,rfl,rfl,o1,v,kk,k2,o2,c2,zs,d,p,.slice x.a x.l x.c,rfl,hE,hent,h1,hpp.symm,by rw [hxp,hxv,hxk],rfl,?_⟩
    rcases hxd with ⟨a,b,c,e⟩ | ⟨a,b,c,e⟩
    ·exact .inl ⟨a,by rw [b,c,e]⟩
    ·exact .inr ⟨a,by rw [b,c,e]⟩
   have hr:bh (j+1) ⟨#[]⟩ zs []=bh j p (zs.drop k2) ([]++[(p,v,kk,d)]):=by
    rw [iA hent]
    rw [if_neg fun h=>h.1 rfl]
   rw [hr]
   have hcl:=dI ([]++[x])
   have nx:=FJ (cs0:=cs0) hX hM (s:=s) j (zs.drop k2) o2 (l1 - k2) c2 H M1 w1 0 (j+1) [] x [] (p,v,kk,d) hk ⟨hIs,trivial⟩ rfl (by omega) dF hE2
   refine jD K (ah (MT S l1 c1 (l1 - k2) c2 o1 o2 0 s ((j+1:Nat):Int) 0 ((0+1:Nat):Int) 0 ⟨#[]⟩ x [] (cE ([]++[x]))) ?_) (by kernel_rfl) nx
   simp only [af]
   repeat' apply And.intro
   all_goals first | exact True.intro | with_reducible assumption | with_reducible rfl | rfl | decide
end
theorem rN {W:World} {S:Src} {c:Nat} (hX:XS S W) (hS:zB S) (hlc:S.Z.length≤c):
  Calls Tryz.prog 53 #[.slice (some ⟨S.blk,S.o,none⟩) S.Z.length c] W (Bk S W (dq S.Z).2.1 ((dq S.Z).1,(dq S.Z).2.2)):=by
 refine bV (E:=jU S) rfl rfl (args:=[.v (.slice (some ⟨S.blk,S.o,none⟩) S.Z.length c)]) (a:=[.slice (some ⟨S.blk,S.o,none⟩) S.Z.length c]) (S0:=pB S (some ⟨S.blk,S.o,none⟩) S.Z.length c) (by kernel_rfl) (aj.cons (VR.ab.2 rfl) aj.nil) fun cs0=>?_
 have hM:∀ z,¬ (az [] []) z:=a6
 have hK:=Kept.start (H0:=W.hp) (M:=az [] []) (w:=W) (Hp.Sub.refl _) (fun z o _=>hM z) (fun z h=>by obtain ⟨i,o,c,h,_⟩:=h;simp at h) (fun _ h=>h)
 have K:=HL hM hK.base hX
 have hE:=mf.start hS hlc
 generalize h1:numR 1099511627776 S.Z=q1
 obtain ⟨s,f1,z2⟩:=q1
 by_cases hf1:f1=0
 case neg=>
  have hr:dq S.Z=(f1,0,[]):=by unfold dq;rw [h1];simp only;rw [if_pos hf1]
  rw [hr]
  have a1:ja S TE TE (0,0) 0 (1099511627776:Int) (some ⟨S.blk,S.o,none⟩) S.Z.length c f1:=⟨rfl,rfl,rfl,S.o,1099511627776,S.Z,rfl,hE,rfl,by decide,iu h1 hf1,hf1⟩
  have a2:pJ TE TE (0,0) f1 (IntKind.u64.wrap (256:Int)) none 0 0:=⟨rfl,rfl,hf1,rfl,rfl,rfl,by decide⟩
  have bE:=lY (cs0:=cs0) (s:=0) (acc:=[]) (n:=0) (i:=0) hX hM hK.base hf1
  refine jD K (ah (Jx S (some ⟨S.blk,S.o,none⟩) S.Z.length c f1) ?_) (by kernel_rfl) bE
  simp only [af]
  repeat' apply And.intro
  all_goals first | exact True.intro | with_reducible assumption | with_reducible rfl | rfl
 subst hf1
 obtain ⟨k1,hk0,hk1,rfl,hsm⟩:=fa h1 hS.oE
 have a1:nL S TE aJ TE (0,0) 0 (1099511627776:Int) (some ⟨S.blk,S.o,none⟩) S.Z.length c (s:Int) (.slice (some ⟨S.blk,aJ S.o c k1,none⟩) (S.Z.length - k1) (c - k1)):=⟨rfl,rfl,rfl,S.o,1099511627776,s,k1,S.Z,rfl,hE,rfl,by decide,rfl,hk1,h1,rfl⟩
 have hE1:=hE.step hk1 (tp hk1 hlc) (c':=c - k1) (by omega)
 generalize h2:numR 256 (S.Z.drop k1)=q2
 obtain ⟨n,f2,z3⟩:=q2
 by_cases hf2:f2=0
 case neg=>
  have hr:dq S.Z=(f2,0,[]):=by unfold dq;rw [h1];simp only;rw [if_neg (by simp),h2];simp only;rw [if_pos hf2]
  rw [hr]
  have a2:ja S TE TE (0,0) 0 (IntKind.u64.wrap (256:Int)) (some ⟨S.blk,aJ S.o c k1,none⟩) (S.Z.length - k1) (c - k1) f2:=⟨rfl,rfl,rfl,_,256,_,rfl,hE1,by decide,by decide,iu h2 hf2,hf2⟩
  have bE:=lY (cs0:=cs0) (s:=0) (acc:=[]) (n:=0) (i:=0) hX hM hK.base hf2
  refine jD K (ah (Lz S (some ⟨S.blk,S.o,none⟩) S.Z.length c s (aJ S.o c k1) (S.Z.length - k1) (c - k1) f2) ?_) (by kernel_rfl) bE
  simp only [af]
  repeat' apply And.intro
  all_goals first | exact True.intro | with_reducible assumption | with_reducible rfl | rfl
 subst hf2
 obtain ⟨k2,hk20,hk2,rfl,hnm⟩:=fa h2 hE1.oE
 rw [hE1.len] at hk2
 have a2:nL S TE aJ TE (0,0) 0 (IntKind.u64.wrap (256:Int)) (some ⟨S.blk,aJ S.o c k1,none⟩) (S.Z.length - k1) (c - k1) (n:Int) (.slice (some ⟨S.blk,aJ (aJ S.o c k1) (c - k1) k2,none⟩) (S.Z.length - k1 - k2) (c - k1 - k2)):=⟨rfl,rfl,rfl,_,256,n,k2,_,rfl,hE1,by decide,by decide,rfl,hk2,h2,rfl⟩
 have hE2:=hE1.step hk2 (tp hk2 hE1.lc) (c':=c - k1 - k2) (by omega)
 have hr:dq S.Z=((bh n ⟨#[]⟩ ((S.Z.drop k1).drop k2) []).1,s,(bh n ⟨#[]⟩ ((S.Z.drop k1).drop k2) []).2):=by unfold dq;rw [h1];simp only;rw [if_neg (by simp),h2];simp only;rw [if_neg (by simp)]
 rw [hr]
 have hwn:=lK hnm (by decide)
 have nx:=Hc (cs0:=cs0) hX hM (s:=s) hK n _ _ _ _ hnm hE2
 refine jD K (ah (Nj S (some ⟨S.blk,S.o,none⟩) S.Z.length c s n (aJ S.o c k1) (S.Z.length - k1) (c - k1) (aJ (aJ S.o c k1) (c - k1) k2) (S.Z.length - k1 - k2) (c - k1 - k2)) ?_) (by kernel_rfl) (by rw [hwn];exact nx)
 simp only [af]
 repeat' apply And.intro
 all_goals first | exact True.intro | with_reducible assumption | with_reducible rfl | rfl
end ez
end paths
end Go.Proofs.YtcbokmadfcedaaaGreatDoor
set_option linter.unusedSimpArgs false
set_option linter.unusedVariables false
set_option maxRecDepth 100000
namespace Go.Proofs.YtcbokmadfcedaaaGreatDoor
open Go Go.Rx Go.RowKit Go.Proofs
namespace paths
namespace ez
open crc (crcN NibTab more_calls rmore_calls)
theorem xA {w:World} {b o n:Nat} {zs:List Int} (hl:zs.length=n) (hf:n≤140737488355328) (h:BytesIn w b o zs):iV w (some ⟨b,o,none⟩) n zs:=by
 obtain ⟨cs,e,fz,hh,hoff,hc⟩:=h
 refine ⟨⟨hl,hf,fun a ha i hi W' hk=>?_⟩,fun h=>by cases h⟩
 cases ha
 have hadd:(⟨b,o,none⟩:Addr).add i=⟨b,o+i,none⟩:=by
  unfold Addr.add
  split
  ·rename_i h;subst h;rfl
  ·rfl
 have hlt:i<zs.length:=by rw [hl];exact hi
 rw [hadd]
 show W'.cell? ⟨b,o+i,none⟩=_
 unfold World.cell?
 rw [hk _ (Array.getElem?_eq_some_iff.1 hh).1,hh]
 exact hc i (.int .u8 (zs.getD i 0)) (by rw [List.getElem?_map,List.getElem?_eq_getElem hlt,List.getD_eq_getElem?_getD,List.getElem?_eq_getElem hlt];rfl)
structure eh (w:World):Prop where
 tab:NibTab w
 all:∃ c e fz,w.heap[(1:Nat)]?=some (.cells c e fz)∧∀ (k:Nat) (y:Value),c[k]?=some y→∃ z,y=.int .u32 z
theorem eh.cr {w0 w:World} (h:eh w0) (hk:∀ k,k<w0.heap.size→w.heap[k]?=w0.heap[k]?):eh w:=by
 obtain ⟨c,e,fz,h1,h2⟩:=h.all
 exact ⟨h.tab.cr hk,c,e,fz,(hk _ (Array.getElem?_eq_some_iff.1 h1).1).trans h1,h2⟩
theorem eh.ne {w:World} (h:eh w) {b o:Nat} {zs:List Int} (hb:BytesIn w b o zs) (hz:0<zs.length):(1:Nat)≠b:=by
 intro hh
 subst hh
 obtain ⟨c,e,fz,h1,h2⟩:=h.all
 obtain ⟨cs,e',fz',h3,_,h4⟩:=hb
 rw [h1] at h3
 cases h3
 obtain ⟨z,t,rfl⟩:∃ z t,zs=z::t:=by cases zs with
  | nil=>simp at hz
  | cons z t=>exact ⟨z,t,rfl⟩
 obtain ⟨y,hy⟩:=h2 _ _ (h4 0 (.int .u8 z) rfl)
 cases hy
structure tU (xs:List SV) (o n:Nat) (m q:Int):Prop where
 m0:m=0
 ob:o≤xs.length
 ex:∃ zs,di xs o n zs∧q=((crcN zs:Nat):Int)
def sQ:Sum:=fun args s=>match args with
 | [.v (.int .u32 m),.sl i o n (some c)]=>match s.look i,s.orc s.dc with
  | some (.look xs,_),some (.cells [.v (.int .u32 q)])=>some (.v (.int .u32 q),s.dw (tU xs o n m q))
  | _,_=>none
 | _=>none
theorem vO {f : FuncId} {X : World → Prop} (hC : ∃ fn, Tryz.prog.funcs[f]? = some fn ∧ fn.body.isSome = true ∧ (fn.name == "runtime.NumGoroutine") = false) (hf : ∀ {w : World} {b o n c : Nat} {zs : List Int}, X w → BytesIn w b o zs → zs.length = n → n ≤ 140737488355328 → n ≤ c → (∀ z ∈ zs, 0 ≤ z ∧ z < 256) → Calls Tryz.prog f #[.int .u32 0, .slice (some ⟨b, o, none⟩) n c] w fun e w' => Below w.heap.size w w' ∧ e = .returned (.int .u32 ((crcN zs : Nat) : Int))) : cF Tryz.prog X (f, sQ) := by
 refine ⟨hC,fun args x s s' hx ob=>?_⟩
 dsimp only at hx
 unfold sQ at hx
 split at hx
 ·rename_i m i o n c
  split at hx
  ·rename_i xs mk q hli _
   cases hx
   obtain ⟨ob0,hP⟩:s.ob∧tU xs o n m q:=⟨ob.1,ob.2⟩
   obtain ⟨rfl,hox,zs,hB,rfl⟩:=hP
   refine ⟨ob0,fun ν M w0 w a hr hX ha=>?_⟩
   obtain ⟨y0,as0,rfl,q0,ha1⟩:=ha.cons_inv
   obtain ⟨y1,as1,rfl,q1,ha2⟩:=ha1.cons_inv
   obtain rfl:=ha2.aq
   obtain rfl:=VR.ab.1 q0
   obtain ⟨bi,hbi,hnc,rfl⟩:=VR.ay.1 q1
   obtain ⟨hi1,hi2,bi',obi,hbi',hobi,hori,_⟩:=hr.look hli
   rw [hbi] at hbi';cases hbi'
   have hIn:BytesIn w bi.1 o zs:=hB.holds hobi hori (fun _=>trivial) fun _ c e fz hq=>by subst hq;exact Nat.le_trans hox (gz hori)
   exact (hf hX hIn hB.len hB.dF hnc hB.oE).mono fun e w' ⟨hBl,he⟩=>⟨hBl,_,he,.same (SH.aH _ _) (VR.ab.2 rfl)⟩
  ·cases hx
 ·cases hx
theorem C3:cF Tryz.prog eh (155,sQ):=
 vO ⟨_,Tryz.func155,by kernel_rfl,by kernel_rfl⟩ fun hX hIn hl hf hc hz=>more_calls (xA hl hf hIn) (.inl hc) (fun b hb h0=>by cases hb;exact hX.ne hIn (by omega)) hz hX.tab
theorem AU {X:World→Prop}:cF Tryz.prog X (163,sQ):=
 vO ⟨_,Tryz.func163,by kernel_rfl,by kernel_rfl⟩ fun _ hIn hl hf hc hz=>rmore_calls (xA hl hf hIn) (.inl hc) hz
end ez
end paths
end Go.Proofs.YtcbokmadfcedaaaGreatDoor
set_option linter.unusedSimpArgs false
set_option linter.unusedVariables false
set_option maxRecDepth 100000
namespace Go.Proofs.YtcbokmadfcedaaaGreatDoor
open Go Go.Rx Go.RowKit Go.Proofs
namespace paths
namespace ez
def Li:List (FuncId × Sum):=[(155,sQ),(163,sQ),(117,si)]
noncomputable def bq:Env:={ EP [] [] with sums:=fun f=>Li.lookup f }
noncomputable def sZ (xs:List SV) (o n c:Nat):SM:=(aS bq 89 [.sl 0 o n (some c)] (bc 6 1 0 [eN xs])).getD dx
noncomputable def ng (xs:List SV) (o n c:Nat):SM:=(aS bq 52 [.sl 0 o n (some c)] (bc 6 1 0 [eN xs])).getD dx
theorem Oo (xs:List SV) (o n c:Nat) (q b0 b1 b2 b3:Int) (arr:Array Value):au bq 89 700 (sZ xs o n c) ([(0,.b true),(1000,.b true)]) (.tuple #[.slice none 0 0,.int .i64 11])=[Value.tuple { toList:=[Value.slice none 0 0,vZ 11]:Array Value }=Value.tuple { toList:=[Value.slice none 0 0,vZ 11]:Array Value },decide ((↑n:Int)<4)=true]:=by kernel_rfl
theorem MH (xs:List SV) (o n c:Nat) (q b0 b1 b2 b3:Int) (arr:Array Value):au bq 89 700 (sZ xs o n c) ([(0,.b false),(1,.b true),(2,.b false),(3,.b true),(4,.b false),(5,.b true),(6,.b true),(7,.b true),(8,.cells [.v (.int .u8 b0)]),(9,.b true),(10,.b true),(11,.cells [.v (.int .u8 b1)]),(12,.b true),(13,.b true),(14,.cells [.v (.int .u8 b2)]),(15,.b true),(16,.b true),(17,.cells [.v (.int .u8 b3)]),(18,.b false),(19,.cells [.v (.int .u32 q)]),(20,.b true),(1000,.b true)]) (.tuple #[.slice none 0 0,.int .i64 14])=[Value.tuple { toList:=[Value.slice none 0 0,vZ 14]:Array Value }=Value.tuple { toList:=[Value.slice none 0 0,vZ 14]:Array Value },(!IntKind.u32.wrap (↑(BitVec.ofInt 32 (IntKind.u32.wrap (↑(BitVec.ofInt 32 (IntKind.u32.wrap (↑(BitVec.ofInt 32 (IntKind.u32.wrap (↑(BitVec.ofInt 32 0 ||| BitVec.ofInt 32 (IntKind.u32.wrap (IntKind.u32.wrap b0*2 ^ 0))).toNat:Int)) ||| BitVec.ofInt 32 (IntKind.u32.wrap (IntKind.u32.wrap b1*2 ^ 8))).toNat:Int)) ||| BitVec.ofInt 32 (IntKind.u32.wrap (IntKind.u32.wrap b2*2 ^ 16))).toNat:Int)) ||| BitVec.ofInt 32 (IntKind.u32.wrap (IntKind.u32.wrap b3*2 ^ 24))).toNat:Int)==q)=true,tU xs (o+0) ((IntKind.i64.wrap ((↑n:Int) - 4)).toNat - 0) 0 q,decide (IntKind.i64.wrap (IntKind.i64.wrap (IntKind.i64.wrap (IntKind.i64.wrap (0+1)+1)+1)+1)<(↑(n - (IntKind.i64.wrap ((↑n:Int) - 4)).toNat):Int))=false,xs[o+(IntKind.i64.wrap ((↑n:Int) - 4)).toNat*1+3]?=some (SV.v (Value.int IntKind.u8 b3)),ar (IntKind.i64.wrap (IntKind.i64.wrap (IntKind.i64.wrap (0+1)+1)+1)) (n - (IntKind.i64.wrap ((↑n:Int) - 4)).toNat)=true,decide (IntKind.i64.wrap (IntKind.i64.wrap (IntKind.i64.wrap (0+1)+1)+1)<(↑(n - (IntKind.i64.wrap ((↑n:Int) - 4)).toNat):Int))=true,xs[o+(IntKind.i64.wrap ((↑n:Int) - 4)).toNat*1+2]?=some (SV.v (Value.int IntKind.u8 b2)),ar (IntKind.i64.wrap (IntKind.i64.wrap (0+1)+1)) (n - (IntKind.i64.wrap ((↑n:Int) - 4)).toNat)=true,decide (IntKind.i64.wrap (IntKind.i64.wrap (0+1)+1)<(↑(n - (IntKind.i64.wrap ((↑n:Int) - 4)).toNat):Int))=true,xs[o+(IntKind.i64.wrap ((↑n:Int) - 4)).toNat*1+1]?=some (SV.v (Value.int IntKind.u8 b1)),ar (IntKind.i64.wrap (0+1)) (n - (IntKind.i64.wrap ((↑n:Int) - 4)).toNat)=true,decide (IntKind.i64.wrap (0+1)<(↑(n - (IntKind.i64.wrap ((↑n:Int) - 4)).toNat):Int))=true,xs[o+(IntKind.i64.wrap ((↑n:Int) - 4)).toNat*1+0]?=some (SV.v (Value.int IntKind.u8 b0)),ar 0 (n - (IntKind.i64.wrap ((↑n:Int) - 4)).toNat)=true,decide (0<(↑(n - (IntKind.i64.wrap ((↑n:Int) - 4)).toNat):Int))=true,((↑n:Int)==(↑n:Int))=true,decide (c=(IntKind.i64.wrap ((↑n:Int) - 4)).toNat)=false,decide (0≤IntKind.i64.wrap ((↑n:Int) - 4)∧IntKind.i64.wrap ((↑n:Int) - 4)≤(↑n:Int))=true,decide (c=0)=false,decide (0≤IntKind.i64.wrap ((↑n:Int) - 4)∧IntKind.i64.wrap ((↑n:Int) - 4)≤(↑c:Int))=true,decide ((↑n:Int)<4)=false]:=by kernel_rfl
theorem Ph (xs:List SV) (o n c:Nat) (q b0 b1 b2 b3:Int) (arr:Array Value):aB bq 89 700 (sZ xs o n c) ([(0,.b false),(1,.b true),(2,.b false),(3,.b true),(4,.b false),(5,.b true),(6,.b true),(7,.b true),(8,.cells [.v (.int .u8 b0)]),(9,.b true),(10,.b true),(11,.cells [.v (.int .u8 b1)]),(12,.b true),(13,.b true),(14,.cells [.v (.int .u8 b2)]),(15,.b true),(16,.b true),(17,.cells [.v (.int .u8 b3)]),(18,.b false),(19,.cells [.v (.int .u32 q)]),(20,.b false),(21,.cells [.v (.agg arr)]),(1000,.b true)]) [(0,1)] [0] (.tup [.sl 0 0 (n - 4) none,.v (.int .i64 0)]) [some (.row (arr.toList.map SV.v) 5 (0,0) (some 1),true)]=[0=0∧(IntKind.i64.wrap ((↑n:Int) - 4)).toNat - 0=n - 4∧nZ=none,vZ 0=vZ 0,List.map SV.v arr.toList=List.map SV.v arr.toList,(List.map SV.v arr.toList).all ae=true,gE xs (o+0) ((IntKind.i64.wrap ((↑n:Int) - 4)).toNat - 0) arr,(!IntKind.u32.wrap (↑(BitVec.ofInt 32 (IntKind.u32.wrap (↑(BitVec.ofInt 32 (IntKind.u32.wrap (↑(BitVec.ofInt 32 (IntKind.u32.wrap (↑(BitVec.ofInt 32 0 ||| BitVec.ofInt 32 (IntKind.u32.wrap (IntKind.u32.wrap b0*2 ^ 0))).toNat:Int)) ||| BitVec.ofInt 32 (IntKind.u32.wrap (IntKind.u32.wrap b1*2 ^ 8))).toNat:Int)) ||| BitVec.ofInt 32 (IntKind.u32.wrap (IntKind.u32.wrap b2*2 ^ 16))).toNat:Int)) ||| BitVec.ofInt 32 (IntKind.u32.wrap (IntKind.u32.wrap b3*2 ^ 24))).toNat:Int)==q)=false,tU xs (o+0) ((IntKind.i64.wrap ((↑n:Int) - 4)).toNat - 0) 0 q,decide (IntKind.i64.wrap (IntKind.i64.wrap (IntKind.i64.wrap (IntKind.i64.wrap (0+1)+1)+1)+1)<(↑(n - (IntKind.i64.wrap ((↑n:Int) - 4)).toNat):Int))=false,xs[o+(IntKind.i64.wrap ((↑n:Int) - 4)).toNat*1+3]?=some (SV.v (Value.int IntKind.u8 b3)),ar (IntKind.i64.wrap (IntKind.i64.wrap (IntKind.i64.wrap (0+1)+1)+1)) (n - (IntKind.i64.wrap ((↑n:Int) - 4)).toNat)=true,decide (IntKind.i64.wrap (IntKind.i64.wrap (IntKind.i64.wrap (0+1)+1)+1)<(↑(n - (IntKind.i64.wrap ((↑n:Int) - 4)).toNat):Int))=true,xs[o+(IntKind.i64.wrap ((↑n:Int) - 4)).toNat*1+2]?=some (SV.v (Value.int IntKind.u8 b2)),ar (IntKind.i64.wrap (IntKind.i64.wrap (0+1)+1)) (n - (IntKind.i64.wrap ((↑n:Int) - 4)).toNat)=true,decide (IntKind.i64.wrap (IntKind.i64.wrap (0+1)+1)<(↑(n - (IntKind.i64.wrap ((↑n:Int) - 4)).toNat):Int))=true,xs[o+(IntKind.i64.wrap ((↑n:Int) - 4)).toNat*1+1]?=some (SV.v (Value.int IntKind.u8 b1)),ar (IntKind.i64.wrap (0+1)) (n - (IntKind.i64.wrap ((↑n:Int) - 4)).toNat)=true,decide (IntKind.i64.wrap (0+1)<(↑(n - (IntKind.i64.wrap ((↑n:Int) - 4)).toNat):Int))=true,xs[o+(IntKind.i64.wrap ((↑n:Int) - 4)).toNat*1+0]?=some (SV.v (Value.int IntKind.u8 b0)),ar 0 (n - (IntKind.i64.wrap ((↑n:Int) - 4)).toNat)=true,decide (0<(↑(n - (IntKind.i64.wrap ((↑n:Int) - 4)).toNat):Int))=true,((↑n:Int)==(↑n:Int))=true,decide (c=(IntKind.i64.wrap ((↑n:Int) - 4)).toNat)=false,decide (0≤IntKind.i64.wrap ((↑n:Int) - 4)∧IntKind.i64.wrap ((↑n:Int) - 4)≤(↑n:Int))=true,decide (c=0)=false,decide (0≤IntKind.i64.wrap ((↑n:Int) - 4)∧IntKind.i64.wrap ((↑n:Int) - 4)≤(↑c:Int))=true,decide ((↑n:Int)<4)=false]:=by kernel_rfl
noncomputable def BH (xs:List SV) (o n c:Nat):SM:=(aS bq 91 [.sl 0 o n (some c)] (bc 6 1 0 [eN xs])).getD dx
theorem MV (xs ys m:List SV) (o n c l:Nat) (q b0 b1 b2 b3:Int):aB bq 91 700 (BH xs o n c) ([(0,.cells [.v (.int .u32 q)]),(1,.app [] ys),(2,.app ys [.v (.int .u8 b0),.v (.int .u8 b1),.v (.int .u8 b2),.v (.int .u8 b3)]),(1000,.b true)]) [(0,4)] [0] (.sl 0 0 l none) [some (.row m 5 (0,0) (some 1),true)]=[0=0∧0+n+4=l∧nZ=none,ys++[SV.v (Value.int IntKind.u8 b0),SV.v (Value.int IntKind.u8 b1),SV.v (Value.int IntKind.u8 b2),SV.v (Value.int IntKind.u8 b3)]=m,m.all ae=true,((List.take 4 (List.drop 0 (aX (aX (aX (aX (List.replicate 4 (List.map SV.v [Value.int IntKind.u8 0])).flatten 0 [SV.v (Value.int IntKind.u8 (IntKind.u8.wrap (q.tmod 256)))]) 1 [SV.v (Value.int IntKind.u8 (IntKind.u8.wrap ((IntKind.u32.wrap (q.tdiv 256)).tmod 256)))]) 2 [SV.v (Value.int IntKind.u8 (IntKind.u8.wrap ((IntKind.u32.wrap (q.tdiv 65536)).tmod 256)))]) 3 [SV.v (Value.int IntKind.u8 (IntKind.u8.wrap (IntKind.u32.wrap (q.tdiv 16777216))))]))=[SV.v (Value.int IntKind.u8 b0),SV.v (Value.int IntKind.u8 b1),SV.v (Value.int IntKind.u8 b2),SV.v (Value.int IntKind.u8 b3)]∧[SV.v (Value.int IntKind.u8 b0),SV.v (Value.int IntKind.u8 b1),SV.v (Value.int IntKind.u8 b2),SV.v (Value.int IntKind.u8 b3)].length=4*1)∧4≠0∧(2*(0+n+4)+1024)*1≤140737488355328)∧List.take ((0+n)*1) ([]++ys)=ys∧ys.length=(0+n)*1∧[SV.v (Value.int IntKind.u8 b0),SV.v (Value.int IntKind.u8 b1),SV.v (Value.int IntKind.u8 b2),SV.v (Value.int IntKind.u8 b3)].all SV.flat=true,((List.take (n*1) (List.drop o xs)=ys∧ys.length=n*1)∧n≠0∧(2*(0+n)+1024)*1≤140737488355328)∧List.take 0 (List.drop 0 (List.replicate 0 (List.map SV.v [Value.int IntKind.u8 0])).flatten)=[]∧0=0∧0<0+n,tU xs o n 0 q]:=by kernel_rfl
theorem NK (xs ys m:List SV) (o n c l:Nat) (q b0 b1 b2 b3:Int):aB bq 91 700 (BH xs o n c) ([(0,.cells [.v (.int .u32 q)]),(1,.app0),(2,.app [] [.v (.int .u8 b0),.v (.int .u8 b1),.v (.int .u8 b2),.v (.int .u8 b3)]),(1000,.b true)]) [(0,3)] [0] (.sl 0 0 l none) [some (.row m 5 (0,0) (some 1),true)]=[0=0∧0+4=l∧nZ=none,[]++[SV.v (Value.int IntKind.u8 b0),SV.v (Value.int IntKind.u8 b1),SV.v (Value.int IntKind.u8 b2),SV.v (Value.int IntKind.u8 b3)]=m,m.all ae=true,((List.take 4 (List.drop 0 (aX (aX (aX (aX (List.replicate 4 (List.map SV.v [Value.int IntKind.u8 0])).flatten 0 [SV.v (Value.int IntKind.u8 (IntKind.u8.wrap (q.tmod 256)))]) 1 [SV.v (Value.int IntKind.u8 (IntKind.u8.wrap ((IntKind.u32.wrap (q.tdiv 256)).tmod 256)))]) 2 [SV.v (Value.int IntKind.u8 (IntKind.u8.wrap ((IntKind.u32.wrap (q.tdiv 65536)).tmod 256)))]) 3 [SV.v (Value.int IntKind.u8 (IntKind.u8.wrap (IntKind.u32.wrap (q.tdiv 16777216))))]))=[SV.v (Value.int IntKind.u8 b0),SV.v (Value.int IntKind.u8 b1),SV.v (Value.int IntKind.u8 b2),SV.v (Value.int IntKind.u8 b3)]∧[SV.v (Value.int IntKind.u8 b0),SV.v (Value.int IntKind.u8 b1),SV.v (Value.int IntKind.u8 b2),SV.v (Value.int IntKind.u8 b3)].length=4*1)∧4≠0∧(2*(0+4)+1024)*1≤140737488355328)∧List.take 0 (List.drop 0 (List.replicate 0 (List.map SV.v [Value.int IntKind.u8 0])).flatten)=[]∧0=0∧0<0+4,List.take (n*1) (List.drop o xs)=[]∧n=0,tU xs o n 0 q]:=by kernel_rfl
end ez
end paths
end Go.Proofs.YtcbokmadfcedaaaGreatDoor
set_option linter.unusedVariables false
set_option maxRecDepth 100000
namespace Go.Proofs.YtcbokmadfcedaaaGreatDoor
open Go Go.Rx Go.RowKit Go.Proofs
namespace paths
namespace ez
def sj (b0 b1 b2 b3:Nat):Nat:=b0+256*b1+65536*b2+16777216*b3
theorem u32_in {z:Int} (h0:0≤z) (h1:z<4294967296):IntKind.u32.wrap z=z:=by
 show z % 4294967296=z
 omega
theorem GM {a b s:Nat} (ha:a<2 ^ s):a ||| (b*2 ^ s)=a+b*2 ^ s:=by
 rw [Nat.or_comm,Nat.mul_comm b,← Nat.two_pow_add_eq_or_of_lt ha,Nat.add_comm]
theorem o8 {a b s:Nat} (ha:a<2 ^ s) (hs:s≤24) (hb:b<256) (ht:a+b*2 ^ s<4294967296):
  IntKind.u32.wrap (((BitVec.ofInt 32 (a:Int) ||| BitVec.ofInt 32 (IntKind.u32.wrap (IntKind.u32.wrap (b:Int)*(2:Int) ^ s))).toNat:Nat):Int)=((a+b*2 ^ s:Nat):Int):=by
 have h1:IntKind.u32.wrap (b:Int)=(b:Int):=u32_in (by omega) (by omega)
 have h2:((b:Int)*(2:Int) ^ s)=((b*2 ^ s:Nat):Int):=by push_cast;rfl
 have h3:IntKind.u32.wrap ((b*2 ^ s:Nat):Int)=((b*2 ^ s:Nat):Int):=u32_in (by omega) (by omega)
 rw [h1,h2,h3,BitVec.toNat_or,BitVec.ofInt_natCast,BitVec.ofInt_natCast,BitVec.toNat_ofNat,BitVec.toNat_ofNat,Nat.mod_eq_of_lt (by omega),Nat.mod_eq_of_lt (by omega),GM ha]
 exact u32_in (by omega) (by omega)
theorem zv {b0 b1 b2 b3:Nat} (h0:b0<256) (h1:b1<256) (h2:b2<256) (h3:b3<256):
  IntKind.u32.wrap (((BitVec.ofInt 32 (IntKind.u32.wrap (((BitVec.ofInt 32 (IntKind.u32.wrap (((BitVec.ofInt 32 (IntKind.u32.wrap (((BitVec.ofInt 32 (0:Int) ||| BitVec.ofInt 32 (IntKind.u32.wrap (IntKind.u32.wrap (b0:Int)*(2:Int) ^ 0))).toNat:Nat):Int)) ||| BitVec.ofInt 32 (IntKind.u32.wrap (IntKind.u32.wrap (b1:Int)*(2:Int) ^ 8))).toNat:Nat):Int)) ||| BitVec.ofInt 32 (IntKind.u32.wrap (IntKind.u32.wrap (b2:Int)*(2:Int) ^ 16))).toNat:Nat):Int)) ||| BitVec.ofInt 32 (IntKind.u32.wrap (IntKind.u32.wrap (b3:Int)*(2:Int) ^ 24))).toNat:Nat):Int)=((sj b0 b1 b2 b3:Nat):Int):=by
 have e0:=o8 (a:=0) (b:=b0) (s:=0) (by decide) (by omega) h0 (by omega)
 have e1:=o8 (a:=0+b0*2 ^ 0) (b:=b1) (s:=8) (by omega) (by omega) h1 (by omega)
 have e2:=o8 (a:=0+b0*2 ^ 0+b1*2 ^ 8) (b:=b2) (s:=16) (by omega) (by omega) h2 (by omega)
 have e3:=o8 (a:=0+b0*2 ^ 0+b1*2 ^ 8+b2*2 ^ 16) (b:=b3) (s:=24) (by omega) (by omega) h3 (by omega)
 rw [show ((0:Nat):Int)=(0:Int) from rfl] at e0
 rw [e0,e1,e2,e3]
 unfold sj
 congr 1
 omega
theorem vQ {q b0 b1 b2 b3:Nat} (h0:b0<256) (h1:b1<256) (h2:b2<256) (h3:b3<256) (hq:q<4294967296):sj b0 b1 b2 b3=q↔(b0=q % 256∧b1=q / 256 % 256∧b2=q / 65536 % 256∧b3=q / 16777216):=by
 unfold sj
 omega
end ez
end paths
end Go.Proofs.YtcbokmadfcedaaaGreatDoor
set_option linter.unusedVariables false
set_option maxRecDepth 100000
namespace Go.Proofs.YtcbokmadfcedaaaGreatDoor
open Go Go.Rx Go.RowKit Go.Proofs
namespace paths
namespace ez
open crc (crcN)
def fI (q:Nat):List Int:=[((q % 256:Nat):Int),((q / 256 % 256:Nat):Int),((q / 65536 % 256:Nat):Int),((q / 16777216:Nat):Int)]
def bA (zs:List Int):Int × List Int:=if zs.length<4 then (11,[]) else
 if zs.drop (zs.length - 4)=fI (crcN (zs.take (zs.length - 4))) then (0,zs.take (zs.length - 4)) else (14,[])
theorem pw (zs:List Int):crcN zs<4294967296:=by
 unfold crcN
 omega
theorem F8 {zs:List Int} {k:Nat} (hl:zs.length=k+4) (hz:∀ z∈zs,0≤z∧z<256):∃ b0 b1 b2 b3:Nat,b0<256∧b1<256∧b2<256∧b3<256∧zs[k]?=some (b0:Int)∧zs[k+1]?=some (b1:Int)∧zs[k+2]?=some (b2:Int)∧zs[k+3]?=some (b3:Int)∧zs.drop k=[(b0:Int),(b1:Int),(b2:Int),(b3:Int)]:=by
 have key:∀ j,k+j<zs.length→∃ b:Nat,b<256∧zs[k+j]?=some (b:Int):=fun j hj=>by
  have:=hz _ (List.getElem_mem hj)
  refine ⟨(zs[k+j]).toNat,by omega,?_⟩
  rw [List.getElem?_eq_getElem hj]
  congr 1
  omega
 obtain ⟨b0,h0,e0⟩:=key 0 (by omega)
 obtain ⟨b1,h1,e1⟩:=key 1 (by omega)
 obtain ⟨b2,h2,e2⟩:=key 2 (by omega)
 obtain ⟨b3,h3,e3⟩:=key 3 (by omega)
 refine ⟨b0,b1,b2,b3,h0,h1,h2,h3,e0,e1,e2,e3,?_⟩
 refine List.ext_getElem? fun i=>?_
 rw [List.getElem?_drop]
 match i with
 | 0=>exact e0
 | 1=>exact e1
 | 2=>exact e2
 | 3=>exact e3
 | i+4=>rw [List.getElem?_eq_none (by omega),List.getElem?_eq_none (by simp)]
end ez
end paths
end Go.Proofs.YtcbokmadfcedaaaGreatDoor
set_option linter.unusedSimpArgs false
set_option linter.unusedVariables false
set_option maxRecDepth 100000
namespace Go.Proofs.YtcbokmadfcedaaaGreatDoor
open Go Go.Rx Go.RowKit Go.Proofs
namespace paths
namespace ez
open crc (crcN)
def HM (W : World) (r : Int × List Int) (e : Ending) (w' : World) : Prop := Below W.heap.size W w' ∧
  ((r.1 ≠ 0 ∧ e = .returned (.tuple #[.slice none 0 0, .int .i64 r.1])) ∨
   (r.1 = 0 ∧ ∃ b c, W.heap.size ≤ b ∧ r.2.length ≤ c ∧ e = .returned (.tuple #[.slice (some ⟨b, 0, none⟩) r.2.length c, .int .i64 0]) ∧ BytesIn w' b 0 r.2 ∧ ∃ cs fz, w'.heap[b]? = some (.cells cs 5 fz)))
theorem zj {M:Own} {w0:World} (hM:∀ z,¬ M z) (hX:eh w0):aE bq M w0:=
 aE.AR (Checked.mixed Tryz.checked) (by kernel_rfl) (eR.of ji rfl dL) (cV.oI (X:=eh) (l:=Li) rfl (fun r h=>by
  simp only [Li,List.mem_cons,List.not_mem_nil,or_false] at h
  rcases h with rfl | rfl | rfl
  ·exact C3.t
  ·exact AU.t
  ·exact oX.t) fun ν s w hr _=>hX.cr fun k hk=>hr.frame k hk (hM k)) (fun f g h=>by cases h)
end ez
end paths
end Go.Proofs.YtcbokmadfcedaaaGreatDoor
set_option linter.unusedSimpArgs false
set_option linter.unusedVariables false
set_option maxRecDepth 100000
namespace Go.Proofs.YtcbokmadfcedaaaGreatDoor
open Go Go.Rx Go.RowKit Go.Proofs
namespace paths
namespace ez
open crc (crcN bC bC_len bC_closed b_at cells_obj bC_flat)
theorem Ev {M:Own} {w0:World} {cs0:List Frame} {f:FuncId} {R:Ending→World→Prop} {ν:aA} {n:Nat} {St:SM} {o:List (Nat × c9)} {v:Value} (K:aE bq M w0) (h:cp (Go.Rx.au bq f n St o v)) (hR:∀ ν' M1 w1 s' w',bk M w0 M1 w1→HR ν' M1 w1 s' w'→R (.returned v) w'):ao bq M w0 cs0 f R ν St:=ao.au K h.out fun ν' M1 w1 s' w' _ hB hr=>hR ν' M1 w1 s' w' hB hr
theorem yO {W:World} {b o n c:Nat} {zs:List Int} (hX:eh W) (hIn:BytesIn W b o zs) (hl:zs.length=n) (hc:n≤c) (h4:n<4):Calls Tryz.prog 89 #[.slice (some ⟨b,o,none⟩) n c] W (HM W (bA zs)):=by
 have hr:bA zs=(11,[]):=by unfold bA;rw [if_pos (by omega)]
 rw [hr]
 obtain ⟨cs,e,fz,hh,hoff,hcc⟩:=hIn
 have ho:∀ (j:Nat) (o':SO) (b' c':Nat),[SO.look (ak bC o zs)][j]?=some o'→[(b,0)][j]?=some (b',c')→∃ r,W.heap[b']?=some r∧OR (ax [(b,0)]) j o' r:=by
  intro j o' b' c' q1 q2
  match j with
  | 0=>
   simp only [List.getElem?_cons_zero,Option.some.injEq] at q1 q2
   subst q1
   cases q2
   exact ⟨_,hh,bW (h:=fun z=>[Value.int .u8 z]) (fun ν x=>aj.lits ν [Value.int .u8 x]) hoff (by rw [bC_flat];exact hcc)⟩
  | j+1=>simp at q1
 have hM:∀ z,¬ (az [(b,0)] ([SO.look (ak bC o zs)].map fun o=>(o,false))) z:=fun z=>aO (os:=[_])
 refine aY (E:=bq) rfl (d:=6) (l:=[(b,0)]) (os:=[.look (ak bC o zs)]) rfl (by simp) (by simp) ho rfl (args:=[.sl 0 o n (some c)]) (a:=[.slice (some ⟨b,o,none⟩) n c]) (S0:=sZ (ak bC o zs) o n c) (by kernel_rfl) (aj.cons (VR.ay.2 ⟨(b,0),rfl,hc,rfl⟩) aj.nil) fun cs0=>?_
 have K:=zj hM hX
 have hn:decide ((n:Int)<(4:Int))=true:=decide_eq_true (by omega)
 refine Ev K (ah (Oo (ak bC o zs) o n c 0 0 0 0 0 #[]) ?_) fun ν' M2 w2 s' w' hB2 hr=>⟨aG hM hB2 hr,.inl ⟨by decide,rfl⟩⟩
 simp only [af]
 repeat' apply And.intro
 all_goals first | exact True.intro | with_reducible assumption | with_reducible rfl | rfl
end ez
end paths
end Go.Proofs.YtcbokmadfcedaaaGreatDoor
set_option linter.unusedVariables false
set_option maxRecDepth 100000
namespace Go.Proofs.YtcbokmadfcedaaaGreatDoor
open Go Go.Rx Go.RowKit Go.Proofs
namespace paths
namespace ez
open crc (crcN bC bC_len bC_closed b_at)
theorem eS {o i:Nat} {zs:List Int} {z:Int} (h:zs[i]?=some z):(ak bC o zs)[o+i]?=some (.v (.int .u8 z)):=by
 have h2:=se (off:=o) bC_len h
 have h3:(List.take 1 (List.drop (o+i*1) (ak bC o zs)))[0]?=(bC z)[0]?:=by rw [h2]
 rw [List.getElem?_take,if_pos (by decide),List.getElem?_drop,Nat.mul_one] at h3
 exact h3
theorem eK {o k:Nat} {zs:List Int} (hk:k≤zs.length) (dF:zs.length≤140737488355328) (hz:∀ z∈zs,0≤z∧z<256):di (ak bC o zs) o k (zs.take k):=by
 refine ⟨by rw [List.length_take];omega,by omega,fun z h=>hz z (List.mem_of_mem_take h),fun i z h=>?_⟩
 rw [List.getElem?_take] at h
 split at h
 ·exact eS h
 ·cases h
end ez
end paths
end Go.Proofs.YtcbokmadfcedaaaGreatDoor
set_option linter.unusedSimpArgs false
set_option linter.unusedVariables false
set_option maxRecDepth 100000
namespace Go.Proofs.YtcbokmadfcedaaaGreatDoor
open Go Go.Rx Go.RowKit Go.Proofs
namespace paths
namespace ez
open crc (crcN bC bC_len bC_closed b_at cells_obj bC_flat)
theorem w4 {k:Nat} (h:k≤140737488355328):IntKind.i64.wrap (((k+4:Nat):Int) - (4:Int))=(k:Int):=by rw [show ((k+4:Nat):Int) - 4=(k:Int) by omega];exact IntWalk.i64_in _ (by omega)
theorem DK {W:World} {b o k c:Nat} {zs:List Int} (hX:eh W) (hIn:BytesIn W b o zs) (hl:zs.length=k+4) (hf:k+4≤140737488355328) (hc:k+4≤c) (hz:∀ z∈zs,0≤z∧z<256) (hne:zs.drop k≠fI (crcN (zs.take k))):Calls Tryz.prog 89 #[.slice (some ⟨b,o,none⟩) (k+4) c] W (HM W (bA zs)):=by
 have hr:bA zs=(14,[]):=by unfold bA;rw [if_neg (by omega),hl,Nat.add_sub_cancel,if_neg hne]
 rw [hr]
 have hIn0:=hIn
 obtain ⟨cs,e,fz,hh,hoff,hcc⟩:=hIn
 have ho:∀ (j:Nat) (o':SO) (b' c':Nat),[SO.look (ak bC o zs)][j]?=some o'→[(b,0)][j]?=some (b',c')→∃ r,W.heap[b']?=some r∧OR (ax [(b,0)]) j o' r:=by
  intro j o' b' c' q1 q2
  match j with
  | 0=>
   simp only [List.getElem?_cons_zero,Option.some.injEq] at q1 q2
   subst q1
   cases q2
   exact ⟨_,hh,bW (h:=fun z=>[Value.int .u8 z]) (fun ν x=>aj.lits ν [Value.int .u8 x]) hoff (by rw [bC_flat];exact hcc)⟩
  | j+1=>simp at q1
 have hM:∀ z,¬ (az [(b,0)] ([SO.look (ak bC o zs)].map fun o=>(o,false))) z:=fun z=>aO (os:=[_])
 refine aY (E:=bq) rfl (d:=6) (l:=[(b,0)]) (os:=[.look (ak bC o zs)]) rfl (by simp) (by simp) ho rfl (args:=[.sl 0 o (k+4) (some c)]) (a:=[.slice (some ⟨b,o,none⟩) (k+4) c]) (S0:=sZ (ak bC o zs) o (k+4) c) (by kernel_rfl) (aj.cons (VR.ay.2 ⟨(b,0),rfl,hc,rfl⟩) aj.nil) fun cs0=>?_
 have K:=zj hM hX
 obtain ⟨b0,b1,b2,b3,h0,h1,h2,h3,e0,e1,e2,e3,hd⟩:=F8 hl hz
 have hq:(!((sj b0 b1 b2 b3:Nat):Int)==((crcN (zs.take k):Nat):Int))=true:=by
  simp only [Bool.not_eq_true',beq_eq_false_iff_ne]
  intro h
  have h:=(vQ h0 h1 h2 h3 (pw (zs.take k))).1 (by omega)
  exact hne (by rw [hd,h.1,h.2.1,h.2.2.1,h.2.2.2];rfl)
 have hP:tU (ak bC o zs) (o+0) (k - 0) 0 ((crcN (zs.take k):Nat):Int):=⟨rfl,by simp [ak],zs.take k,eK (by omega) (by omega) hz,rfl⟩
 have hw:=w4 (k:=k) (by omega)
 refine Ev K (ah (MH (ak bC o zs) o (k+4) c ((crcN (zs.take k):Nat):Int) b0 b1 b2 b3 #[]) ?_) fun ν' M2 w2 s' w' hB2 hr=>⟨aG hM hB2 hr,.inl ⟨by decide,rfl⟩⟩
 simp only [af,hw,zv h0 h1 h2 h3,Int.toNat_natCast,show k+4 - k=4 by omega,Nat.mul_one,Nat.add_assoc]
 have f0:=eS (o:=o) e0
 have f1:=eS (o:=o) e1
 have f2:=eS (o:=o) e2
 have f3:=eS (o:=o) e3
 repeat' apply And.intro
 all_goals first | exact True.intro | with_reducible assumption | with_reducible rfl | exact f0 | exact decide_eq_true (by omega) | exact decide_eq_false (by omega) | rfl
theorem Dw {M:Own} {w0:World} {cs0:List Frame} {f:FuncId} {R:Ending→World→Prop} {ν:aA} {n:Nat} {St:SM} {o:List (Nat × c9)} {ren:List (Nat × Nat)} {eqs:List Nat} {x:SV} {l:List (Option (SO × Bool))} (K:aE bq M w0) (h:cp (Go.Rx.aB bq f n St o ren eqs x l))
  (hR:∀ ν' w' y,VR (ν'.ren ren) x y→yg (ν'.ren ren) M w0 w' l→(∃ M1 w1 s',bk M w0 M1 w1∧HR ν' M1 w1 s' w')→R (.returned y) w'):ao bq M w0 cs0 f R ν St:=ao.aB K h.out fun ν' w' y _=>hR ν' w' y
theorem zZ {W:World} {b o k c:Nat} {zs:List Int} (hX:eh W) (hIn:BytesIn W b o zs) (hl:zs.length=k+4) (hf:k+4≤140737488355328) (hc:k+4≤c) (hz:∀ z∈zs,0≤z∧z<256) (heq:zs.drop k=fI (crcN (zs.take k))):Calls Tryz.prog 89 #[.slice (some ⟨b,o,none⟩) (k+4) c] W (HM W (bA zs)):=by
 have hr:bA zs=(0,zs.take k):=by unfold bA;rw [if_neg (by omega),hl,Nat.add_sub_cancel,if_pos heq]
 rw [hr]
 have hIn0:=hIn
 obtain ⟨cs,e,fz,hh,hoff,hcc⟩:=hIn
 have ho:∀ (j:Nat) (o':SO) (b' c':Nat),[SO.look (ak bC o zs)][j]?=some o'→[(b,0)][j]?=some (b',c')→∃ r,W.heap[b']?=some r∧OR (ax [(b,0)]) j o' r:=by
  intro j o' b' c' q1 q2
  match j with
  | 0=>
   simp only [List.getElem?_cons_zero,Option.some.injEq] at q1 q2
   subst q1
   cases q2
   exact ⟨_,hh,bW (h:=fun z=>[Value.int .u8 z]) (fun ν x=>aj.lits ν [Value.int .u8 x]) hoff (by rw [bC_flat];exact hcc)⟩
  | j+1=>simp at q1
 have hM:∀ z,¬ (az [(b,0)] ([SO.look (ak bC o zs)].map fun o=>(o,false))) z:=fun z=>aO (os:=[_])
 refine aY (E:=bq) rfl (d:=6) (l:=[(b,0)]) (os:=[.look (ak bC o zs)]) rfl (by simp) (by simp) ho rfl (args:=[.sl 0 o (k+4) (some c)]) (a:=[.slice (some ⟨b,o,none⟩) (k+4) c]) (S0:=sZ (ak bC o zs) o (k+4) c) (by kernel_rfl) (aj.cons (VR.ay.2 ⟨(b,0),rfl,hc,rfl⟩) aj.nil) fun cs0=>?_
 have K:=zj hM hX
 obtain ⟨b0,b1,b2,b3,h0,h1,h2,h3,e0,e1,e2,e3,hd⟩:=F8 hl hz
 have hq:(!((sj b0 b1 b2 b3:Nat):Int)==((crcN (zs.take k):Nat):Int))=false:=by
  rw [heq] at hd
  simp only [fI,List.cons.injEq,and_true] at hd
  have h:=(vQ h0 h1 h2 h3 (pw (zs.take k))).2 ⟨by omega,by omega,by omega,by omega⟩
  rw [h];simp
 have hP:tU (ak bC o zs) (o+0) (k - 0) 0 ((crcN (zs.take k):Nat):Int):=⟨rfl,by simp [ak],zs.take k,eK (by omega) (by omega) hz,rfl⟩
 have hw:=w4 (k:=k) (by omega)
 have hX2:gE (ak bC o zs) (o+0) (k - 0) (((zs.take k).map (Value.int .u8)).toArray):=⟨by simp [ak],zs.take k,eK (by omega) (by omega) hz,rfl⟩
 have hcl:(List.map SV.v (((zs.take k).map (Value.int .u8)).toArray).toList).all ae=true:=gj (zs.take k)
 refine Dw K (ah (Ph (ak bC o zs) o (k+4) c ((crcN (zs.take k):Nat):Int) b0 b1 b2 b3 (((zs.take k).map (Value.int .u8)).toArray)) ?_) fun ν' w' y hv hEM hh2=>?_
 rotate_left
 ·obtain ⟨M3,w3,s',hB,oQ⟩:=hh2
  have hbel:=aG hM hB oQ
  obtain ⟨ta,rfl,hta⟩:=VR.bN.1 hv
  obtain ⟨y1,ta1,rfl,q1,hta1⟩:=hta.cons_inv
  obtain ⟨y2,ta2,rfl,q2,hta2⟩:=hta1.cons_inv
  obtain rfl:=hta2.aq
  obtain rfl:=VR.ab.1 q2
  obtain ⟨g,eg,hgl,rfl⟩:=VR.ay.1 q1
  obtain ⟨b',ob,hb',hoo,hor,hw2⟩:=hEM.obj 0 _ _ rfl
  rw [eg] at hb';cases hb'
  have hlk:(zs.take k).length=k:=by rw [List.length_take];omega
  have hB2:di (List.map SV.v (((zs.take k).map (Value.int .u8)).toArray).toList) 0 k (zs.take k):=⟨hlk,by omega,fun z h=>hz z (List.mem_of_mem_take h),fun i z h=>by rw [Nat.zero_add,List.getElem?_map,List.getElem?_map,h];rfl⟩
  have hIn2:=hB2.holds hoo (sB hor) (fun _=>trivial) fun _ c e fz _=>Nat.zero_le _
  have hnew:=(hw2 rfl).resolve_right (hM _)
  have hgl:k+4 - 4≤g.2 - 0:=hgl
  obtain ⟨zs',rest,rfl,_,_⟩:=hor
  refine ⟨hbel,.inr ⟨rfl,g.1,g.2 - 0,hnew,by rw [hlk];omega,?_,hIn2,_,_,hoo⟩⟩
  rw [hlk]
  show Ending.returned (.tuple #[.slice (some ⟨g.1,0,none⟩) (k+4 - 4) (g.2 - 0),.int .i64 0])=_
  rw [Nat.add_sub_cancel]
 simp only [af,hw,zv h0 h1 h2 h3,Int.toNat_natCast,show k+4 - k=4 by omega,Nat.mul_one,Nat.add_assoc]
 have f0:=eS (o:=o) e0
 have f1:=eS (o:=o) e1
 have f2:=eS (o:=o) e2
 have f3:=eS (o:=o) e3
 repeat' apply And.intro
 all_goals first | exact True.intro | with_reducible assumption | with_reducible rfl | exact f0 | exact decide_eq_true (by omega) | exact decide_eq_false (by omega) | rfl
theorem xQ {W:World} {b o n c:Nat} {zs:List Int} (hX:eh W) (hIn:BytesIn W b o zs) (hl:zs.length=n) (hf:n≤140737488355328) (hc:n≤c) (hz:∀ z∈zs,0≤z∧z<256):Calls Tryz.prog 89 #[.slice (some ⟨b,o,none⟩) n c] W (HM W (bA zs)):=by
 by_cases h4:n<4
 ·exact yO hX hIn hl hc h4
 ·obtain ⟨k,rfl⟩:∃ k,n=k+4:=⟨n - 4,by omega⟩
  by_cases hq:zs.drop k=fI (crcN (zs.take k))
  ·exact zZ hX hIn hl hf hc hz hq
  ·exact DK hX hIn hl hf hc hz hq
theorem u8_in {z:Int} (h0:0≤z) (h1:z<256):IntKind.u8.wrap z=z:=by
 show z % 256=z
 omega
theorem yu {q:Nat} (hq:q<4294967296):IntKind.u8.wrap (((q:Nat):Int).tmod 256)=((q % 256:Nat):Int)∧IntKind.u8.wrap ((IntKind.u32.wrap (((q:Nat):Int).tdiv 256)).tmod 256)=((q / 256 % 256:Nat):Int)∧
  IntKind.u8.wrap ((IntKind.u32.wrap (((q:Nat):Int).tdiv 65536)).tmod 256)=((q / 65536 % 256:Nat):Int)∧IntKind.u8.wrap (IntKind.u32.wrap (((q:Nat):Int).tdiv 16777216))=((q / 16777216:Nat):Int):=by
 have e:∀ k:Nat,((q:Nat):Int).tdiv (k:Int)=((q / k:Nat):Int):=fun k=>by rw [Int.tdiv_eq_ediv_of_nonneg (by omega)];rfl
 have m:∀ k:Nat,((k:Nat):Int).tmod (256:Int)=((k % 256:Nat):Int):=fun k=>by rw [Int.tmod_eq_emod_of_nonneg (by omega)];rfl
 refine ⟨?_,?_,?_,?_⟩
 ·rw [m,u8_in (by omega) (by omega)]
 ·rw [show (256:Int)=((256:Nat):Int) from rfl,e 256,u32_in (by omega) (by omega),show ((256:Nat):Int)=(256:Int) from rfl,m,u8_in (by omega) (by omega)]
 ·rw [show (65536:Int)=((65536:Nat):Int) from rfl,e 65536,u32_in (by omega) (by omega),m,u8_in (by omega) (by omega)]
 ·rw [show (16777216:Int)=((16777216:Nat):Int) from rfl,e 16777216,u32_in (by omega) (by omega),u8_in (by omega) (by omega)]
def LJ (W:World) (zs:List Int) (e:Ending) (w':World):Prop:=Below W.heap.size W w'∧∃ b c rest,W.heap.size≤b∧zs.length≤c∧e=.returned (.slice (some ⟨b,0,none⟩) zs.length c)∧w'.heap[b]?=some (.cells ((zs.map (Value.int .u8))++rest).toArray 5 (0,0))∧((zs.map (Value.int .u8))++rest).length=c
def cG (zs:List Int):List Int:=zs++fI (crcN zs)
theorem xI {W:World} {b o n c:Nat} {zs:List Int} (hX:eh W) (hIn:BytesIn W b o zs) (hl:zs.length=n) (hf:n≤1000000) (hc:n≤c) (hz:∀ z∈zs,0≤z∧z<256):Calls Tryz.prog 91 #[.slice (some ⟨b,o,none⟩) n c] W (LJ W (cG zs)):=by
 have hIn0:=hIn
 obtain ⟨cs,e,fz,hh,hoff,hcc⟩:=hIn
 have ho:∀ (j:Nat) (o':SO) (b' c':Nat),[SO.look (ak bC o zs)][j]?=some o'→[(b,0)][j]?=some (b',c')→∃ r,W.heap[b']?=some r∧OR (ax [(b,0)]) j o' r:=by
  intro j o' b' c' q1 q2
  match j with
  | 0=>
   simp only [List.getElem?_cons_zero,Option.some.injEq] at q1 q2
   subst q1
   cases q2
   exact ⟨_,hh,bW (h:=fun z=>[Value.int .u8 z]) (fun ν x=>aj.lits ν [Value.int .u8 x]) hoff (by rw [bC_flat];exact hcc)⟩
  | j+1=>simp at q1
 have hM:∀ z,¬ (az [(b,0)] ([SO.look (ak bC o zs)].map fun o=>(o,false))) z:=fun z=>aO (os:=[_])
 refine aY (E:=bq) rfl (d:=6) (l:=[(b,0)]) (os:=[.look (ak bC o zs)]) rfl (by simp) (by simp) ho rfl (args:=[.sl 0 o n (some c)]) (a:=[.slice (some ⟨b,o,none⟩) n c]) (S0:=BH (ak bC o zs) o n c) (by kernel_rfl) (aj.cons (VR.ay.2 ⟨(b,0),rfl,hc,rfl⟩) aj.nil) fun cs0=>?_
 have K:=zj hM hX
 have hP:tU (ak bC o zs) o n 0 ((crcN zs:Nat):Int):=⟨rfl,by simp [ak],zs,by have:=eK (o:=o) (k:=n) (zs:=zs) (by omega) (by omega) hz;rwa [List.take_of_length_le (by omega)] at this,rfl⟩
 obtain ⟨t0,t1,t2,t3⟩:=yu (pw zs)
 have hys:List.take n (List.drop o (ak bC o zs))=(zs.map (Value.int .u8)).map SV.v:=by
  refine List.ext_getElem? fun i=>?_
  rw [List.getElem?_take]
  split
  ·rename_i hi
   rw [List.getElem?_drop,List.getElem?_map,List.getElem?_map,List.getElem?_eq_getElem (by omega:i<zs.length)]
   exact eS (List.getElem?_eq_getElem (by omega))
  ·rw [List.getElem?_eq_none (by simp;omega)]
 have hm:(cG zs).map (fun z=>SV.v (Value.int .u8 z))=(zs.map (Value.int .u8)).map SV.v++[SV.v (Value.int .u8 ((crcN zs % 256:Nat):Int)),SV.v (Value.int .u8 ((crcN zs / 256 % 256:Nat):Int)),SV.v (Value.int .u8 ((crcN zs / 65536 % 256:Nat):Int)),SV.v (Value.int .u8 ((crcN zs / 16777216:Nat):Int))]:=by
  unfold cG fI
  rw [List.map_append,List.map_map];rfl
 have hcl:((cG zs).map (fun z=>SV.v (Value.int .u8 z))).all ae=true:=by
  rw [List.all_eq_true]
  intro x hx
  obtain ⟨z,_,rfl⟩:=List.mem_map.1 hx
  rfl
 have hcl2:=hcl
 rw [hm] at hcl2
 have hl2:((zs.map (Value.int .u8)).map SV.v).length=n:=by simp [hl]
 have hl3:((zs.map (Value.int .u8)).map SV.v).length=0+n:=by simp [hl]
 have htk:List.take (0+n) ([]++(zs.map (Value.int .u8)).map SV.v)=(zs.map (Value.int .u8)).map SV.v:=List.take_of_length_le (by simp [hl])
 have hsl:(cG zs).length=n+4:=by unfold cG fI;simp [hl]
 have fin:∀ (ν':aA) (w':World) (y:Value) (ren:List (Nat × Nat)),VR (ν'.ren ren) (.sl 0 0 (n+4) none) y→yg (ν'.ren ren) (az [(b,0)] ([SO.look (ak bC o zs)].map fun o=>(o,false))) W w' [some (.row ((cG zs).map (fun z=>SV.v (Value.int .u8 z))) 5 (0,0) (some 1),true)]→(∃ M1 w1 s',bk (az [(b,0)] ([SO.look (ak bC o zs)].map fun o=>(o,false))) W M1 w1∧HR ν' M1 w1 s' w')→LJ W (cG zs) (.returned y) w':=by
  intro ν' w' y ren hv hEM hh2
  obtain ⟨M3,w3,s',hB,oQ⟩:=hh2
  have hbel:=aG hM hB oQ
  obtain ⟨g,eg,hgl,rfl⟩:=VR.ay.1 hv
  obtain ⟨b',ob,hb',hoo,hor,hw2⟩:=hEM.obj 0 _ _ rfl
  rw [eg] at hb';cases hb'
  have hnew:=(hw2 rfl).resolve_right (hM _)
  have hgl:n+4≤g.2 - 0:=hgl
  obtain ⟨zs',rest,rfl,hv',hx⟩:=hor
  have hv':aj (ν'.ren ren) (((cG zs).map (Value.int .u8)).map SV.v) zs':=by rw [List.map_map];exact hv'
  obtain rfl:zs'=(cG zs).map (Value.int .u8):=bT hv' (aj.lits (ν'.ren ren) _)
  obtain ⟨_,b2,hb2,hsz⟩:=hx
  rw [eg] at hb2;cases hb2
  refine ⟨hbel,g.1,g.2 - 0,rest,hnew,by rw [hsl];exact hgl,by rw [hsl];rfl,hoo,by rw [hsz];omega⟩
 by_cases h0:n=0
 ·subst h0
  have hy0:(zs.map (Value.int .u8)).map SV.v=[]:=by rw [List.length_eq_zero_iff.1 hl];rfl
  refine Dw K (ah (NK (ak bC o zs) [] ((cG zs).map (fun z=>SV.v (Value.int .u8 z))) o 0 c (0+4) ((crcN zs:Nat):Int) ((crcN zs % 256:Nat):Int) ((crcN zs / 256 % 256:Nat):Int) ((crcN zs / 65536 % 256:Nat):Int) ((crcN zs / 16777216:Nat):Int)) ?_) fun ν' w' y hv hEM hh2=>fin ν' w' y _ hv hEM hh2
  simp only [af,t0,t1,t2,t3,Nat.mul_one,hys,hm,hy0,hcl]
  repeat' apply And.intro
  all_goals first | exact True.intro | with_reducible assumption | with_reducible rfl | exact hP | exact hcl2 | rfl | omega | skip
 ·refine Dw K (ah (MV (ak bC o zs) ((zs.map (Value.int .u8)).map SV.v) ((cG zs).map (fun z=>SV.v (Value.int .u8 z))) o n c (0+n+4) ((crcN zs:Nat):Int) ((crcN zs % 256:Nat):Int) ((crcN zs / 256 % 256:Nat):Int) ((crcN zs / 65536 % 256:Nat):Int) ((crcN zs / 16777216:Nat):Int)) ?_) fun ν' w' y hv hEM hh2=>fin ν' w' y _ (by rw [Nat.zero_add] at hv;exact hv) hEM hh2
  simp only [af,t0,t1,t2,t3,Nat.mul_one,hys,hm,hcl]
  repeat' apply And.intro
  all_goals first | exact True.intro | with_reducible assumption | with_reducible rfl | exact hP | exact hcl2 | rfl | omega | skip
end ez
end paths
end Go.Proofs.YtcbokmadfcedaaaGreatDoor
set_option linter.unusedSimpArgs false
set_option linter.unusedVariables false
set_option maxRecDepth 100000
namespace Go.Proofs.YtcbokmadfcedaaaGreatDoor
open Go Go.Rx Go.RowKit Go.Proofs
namespace paths
namespace ez
def H3 (t:ByteArray):List (Nat × c9):=[(0,.b false),(1,.b true),(2,.b false),(3,.str t),(4,.str t),(1000,.b true)]
noncomputable def Ef (xs m:List SV) (o n c:Nat) (t:ByteArray):SM:=uP bq 91 100 (ng xs o n c) (H3 t) (fun i=>.sl i 0 n none) (.row m 5 (0,0) (some 1))
theorem Ob (xs:List SV) (o n c:Nat):au bq 52 700 (ng xs o n c) [(0,.b true),(1000,.b true)] (.tuple #[.slice none 0 0,.int .i64 11])=[Value.tuple { toList:=[Value.slice none 0 0,vZ 11]:Array Value }=Value.tuple { toList:=[Value.slice none 0 0,vZ 11]:Array Value },decide ((↑n:Int)<4)=true]:=by kernel_rfl
theorem OV (xs:List SV) (o n c:Nat) (t:ByteArray):bB bq 91 100 (ng xs o n c) (H3 t)=[List.take n (List.drop o xs)=List.map (fun c=>SV.v (Value.int IntKind.u8 (↑c.toNat:Int))) t.data.toList∧t.size=n,decide (c=0)=false,decide (0≤IntKind.i64.wrap ((↑n:Int) - 4)∧IntKind.i64.wrap ((↑n:Int) - 4)≤(↑c:Int))=true,decide ((↑n:Int)<4)=false]:=by kernel_rfl
theorem O1 (xs m:List SV) (o n c:Nat) (t:ByteArray):D3 bq 91 100 (ng xs o n c) (H3 t) (fun i=>.sl i 0 n none) (.row m 5 (0,0) (some 1))=[(t==t)=true,List.take n (List.drop o xs)=List.map (fun c=>SV.v (Value.int IntKind.u8 (↑c.toNat:Int))) t.data.toList∧t.size=n,List.take n (List.drop o xs)=List.map (fun c=>SV.v (Value.int IntKind.u8 (↑c.toNat:Int))) t.data.toList∧t.size=n,decide (c=0)=false,decide (0≤IntKind.i64.wrap ((↑n:Int) - 4)∧IntKind.i64.wrap ((↑n:Int) - 4)≤(↑c:Int))=true,decide ((↑n:Int)<4)=false]:=by kernel_rfl
theorem Ov (xs m:List SV) (o n c:Nat) (s t:ByteArray):au bq 52 700 (Ef xs m o n c t) [(0,.str s),(1,.b true),(1000,.b true)] (.tuple #[.slice none 0 0,.int .i64 14])=[Value.tuple { toList:=[Value.slice none 0 0,vZ 14]:Array Value }=Value.tuple { toList:=[Value.slice none 0 0,vZ 14]:Array Value },(!s.toList==t.toList)=true,List.take n (List.drop 0 m)=List.map (fun c=>SV.v (Value.int IntKind.u8 (↑c.toNat:Int))) s.data.toList∧s.size=n]:=by kernel_rfl
theorem Ns (xs m:List SV) (o n c:Nat) (s t:ByteArray):aB bq 52 700 (Ef xs m o n c t) [(0,.str s),(1,.b false),(1000,.b true)] [(0,0)] [] (.tup [.sl 0 o (IntKind.i64.wrap (((n:Nat):Int) - 4)).toNat (some c),.v (.int .i64 0)]) [none]=[o+0=o∧(IntKind.i64.wrap ((↑n:Int) - 4)).toNat - 0=(IntKind.i64.wrap ((↑n:Int) - 4)).toNat∧some (c - 0)=some c,vZ 0=vZ 0,(!s.toList==t.toList)=false,List.take n (List.drop 0 m)=List.map (fun c=>SV.v (Value.int IntKind.u8 (↑c.toNat:Int))) s.data.toList∧s.size=n]:=by kernel_rfl
theorem NH (xs:List SV) (o n c:Nat) (t:ByteArray):aR bq 91 100 (ng xs o n c) (H3 t)=aP bq 91 [.sl 0 o (IntKind.i64.wrap (((n:Nat):Int) - 4)).toNat (some c)] .normal:=by kernel_rfl
end ez
end paths
end Go.Proofs.YtcbokmadfcedaaaGreatDoor
set_option linter.unusedSimpArgs false
set_option linter.unusedVariables false
set_option maxRecDepth 100000
namespace Go.Proofs.YtcbokmadfcedaaaGreatDoor
open Go Go.Rx Go.RowKit Go.Proofs
namespace paths
namespace ez
open crc (crcN bC bC_len bC_closed b_at cells_obj bC_flat)
def L7 (W:World) (b o c:Nat) (r:Int × List Int) (e:Ending) (w':World):Prop:=Below W.heap.size W w'∧
 ((r.1≠0∧e=.returned (.tuple #[.slice none 0 0,.int .i64 r.1]))∨(r.1=0∧e=.returned (.tuple #[.slice (some ⟨b,o,none⟩) r.2.length c,.int .i64 0])))
theorem wv {zs:List Int} (h:zs.length<4):bA zs=(11,[]):=by unfold bA;rw [if_pos h]
theorem AH {zs:List Int} {k:Nat} (hl:zs.length=k+4) (h:zs≠cG (zs.take k)):bA zs=(14,[]):=by
 unfold bA;rw [if_neg (by omega),hl,Nat.add_sub_cancel,if_neg]
 intro he
 refine h ?_
 unfold cG
 rw [← he,List.take_append_drop]
theorem yH {zs:List Int} {k:Nat} (hl:zs.length=k+4) (h:zs=cG (zs.take k)):bA zs=(0,zs.take k):=by
 unfold bA;rw [if_neg (by omega),hl,Nat.add_sub_cancel,if_pos]
 have h2:zs.take k++zs.drop k=zs.take k++fI (crcN (zs.take k)):=by rw [List.take_append_drop];exact h
 exact List.append_cancel_left h2
theorem xR {q:Nat} (hq:q<4294967296):∀ z∈fI q,0≤z∧z<256:=by
 intro z hz
 simp only [fI,List.mem_cons,List.not_mem_nil,or_false] at hz
 rcases hz with rfl | rfl | rfl | rfl <;> omega
theorem AQ {zs:List Int} (hz:∀ z∈zs,0≤z∧z<256):∀ z∈cG zs,0≤z∧z<256:=by
 intro z h
 rcases List.mem_append.1 h with h | h
 ·exact hz z h
 ·exact xR (pw zs) z h
theorem Dn {a b:List Int} (ha:∀ z∈a,0≤z∧z<256) (hb:∀ z∈b,0≤z∧z<256) (h:bt a=bt b):a=b:=by
 have h1:=dX ha
 rw [h,dX hb] at h1
 refine List.ext_getElem? fun i=>?_
 have h2:(b.map fun z=>SV.v (Value.int .u8 z))[i]?=(a.map fun z=>SV.v (Value.int .u8 z))[i]?:=by rw [h1]
 rw [List.getElem?_map,List.getElem?_map] at h2
 cases ea:a[i]? with
 | none=>cases eb:b[i]? with
  | none=>rfl
  | some y=>rw [ea,eb] at h2;cases h2
 | some x=>cases eb:b[i]? with
  | none=>rw [ea,eb] at h2;cases h2
  | some y=>rw [ea,eb] at h2;simp only [Option.map_some,Option.some.injEq,SV.v.injEq,Value.int.injEq,true_and] at h2;rw [h2]
theorem iU {w:World} {b o k:Nat} {zs:List Int} (h:BytesIn w b o zs):BytesIn w b o (zs.take k):=by
 obtain ⟨cs,e,fz,h1,h2,h3⟩:=h
 refine ⟨cs,e,fz,h1,h2,fun i v hi=>h3 i v ?_⟩
 rw [List.map_take,List.getElem?_take] at hi
 split at hi
 ·exact hi
 ·cases hi
theorem fS {W w:World} {b o:Nat} {zs:List Int} (h:BytesIn W b o zs) (hs:W.hp.Sub w.hp):BytesIn w b o zs:=by
 obtain ⟨cs,e,fz,h1,h2,h3⟩:=h
 exact ⟨cs,e,fz,hs _ _ h1,h2,h3⟩
theorem AO {o n:Nat} {zs:List Int} (hl:zs.length=n):List.take n (List.drop o (ak bC o zs))=zs.map fun z=>SV.v (Value.int .u8 z):=by
 refine List.ext_getElem? fun i=>?_
 rw [List.getElem?_take]
 split
 ·rename_i hi
  rw [List.getElem?_drop,List.getElem?_map,List.getElem?_eq_getElem (by omega:i<zs.length)]
  exact eS (List.getElem?_eq_getElem (by omega))
 ·rw [List.getElem?_eq_none (by simp;omega)]
theorem IQ {M:Own} {w0:World} {cs0:List Frame} {f:FuncId} {R:Ending→World→Prop} {ν:aA} {n:Nat} {St:SM} {o:List (Nat × c9)} {ren:List (Nat × Nat)} {eqs:List Nat} {x:SV} {l:List (Option (SO × Bool))} (K:aE bq M w0) (h:cp (Go.Rx.aB bq f n St o ren eqs x l))
  (hR:∀ ν' w' y,ν.Le ν'→VR (ν'.ren ren) x y→yg (ν'.ren ren) M w0 w' l→(∃ M1 w1 s',bk M w0 M1 w1∧HR ν' M1 w1 s' w')→R (.returned y) w'):ao bq M w0 cs0 f R ν St:=ao.aB K h.out hR
theorem vj {W:World} {b o n c:Nat} {zs:List Int} (hX:eh W) (hIn:BytesIn W b o zs) (hl:zs.length=n) (hf:n≤1000000) (hc:n≤c) (hz:∀ z∈zs,0≤z∧z<256):Calls Tryz.prog 52 #[.slice (some ⟨b,o,none⟩) n c] W (L7 W b o c (bA zs)):=by
 have hIn0:=hIn
 obtain ⟨cs,e,fz,hh,hoff,hcc⟩:=hIn
 have ho:∀ (j:Nat) (o':SO) (b' c':Nat),[SO.look (ak bC o zs)][j]?=some o'→[(b,0)][j]?=some (b',c')→∃ r,W.heap[b']?=some r∧OR (ax [(b,0)]) j o' r:=by
  intro j o' b' c' q1 q2
  match j with
  | 0=>
   simp only [List.getElem?_cons_zero,Option.some.injEq] at q1 q2
   subst q1
   cases q2
   exact ⟨_,hh,bW (h:=fun z=>[Value.int .u8 z]) (fun ν x=>aj.lits ν [Value.int .u8 x]) hoff (by rw [bC_flat];exact hcc)⟩
  | j+1=>simp at q1
 have hM:∀ z,¬ (az [(b,0)] ([SO.look (ak bC o zs)].map fun o=>(o,false))) z:=fun z=>aO (os:=[_])
 refine aY (E:=bq) rfl (d:=6) (l:=[(b,0)]) (os:=[.look (ak bC o zs)]) rfl (by simp) (by simp) ho rfl (args:=[.sl 0 o n (some c)]) (a:=[.slice (some ⟨b,o,none⟩) n c]) (S0:=ng (ak bC o zs) o n c) (by kernel_rfl) (aj.cons (VR.ay.2 ⟨(b,0),rfl,hc,rfl⟩) aj.nil) fun cs0=>?_
 have hK0:=Kept.start (H0:=W.hp) (M:=az [(b,0)] ([SO.look (ak bC o zs)].map fun o=>(o,false))) (w:=W) (Hp.Sub.refl _) (fun z o _=>hM z) (ek (by
  intro j o' m b' c' q1 q2
  rw [List.getElem?_map] at q1
  obtain ⟨o2,q3,q4⟩:=Option.map_eq_some_iff.1 q1
  cases q4
  exact ho j o' b' c' q3 q2)) (fun _ h=>h)
 have K:=zj hM hX
 by_cases h4:n<4
 ·rw [wv (by omega)]
  have hn:decide ((n:Int)<(4:Int))=true:=decide_eq_true (by omega)
  refine Ev K (ah (Ob (ak bC o zs) o n c) ?_) fun ν' M2 w2 s' w' hB2 hr=>⟨aG hM hB2 hr,.inl ⟨by decide,rfl⟩⟩
  simp only [af]
  repeat' apply And.intro
  all_goals first | exact True.intro | with_reducible rfl | with_reducible assumption | exact decide_eq_false (by omega) | exact decide_eq_true ⟨by omega,by omega⟩ | (rw [htr,hst];done) | (rw [hsz,hl];done) | rfl
 obtain ⟨k,rfl⟩:∃ k,n=k+4:=⟨n - 4,by omega⟩
 have hw:=w4 (k:=k) (by omega)
 have hlk:(zs.take k).length=k:=by rw [List.length_take];omega
 have hst:=dX hz
 have hsz:=gh zs
 have hz2:∀ z∈zs.take k,0≤z∧z<256:=fun z h=>hz z (List.mem_of_mem_take h)
 have htr:=AO (o:=o) hl
 have hb:=iS (bt zs)
 refine ao.Iv K hK0 (n:=100) (g:=91) (o:=H3 (bt zs)) (args:=[.sl 0 o (IntKind.i64.wrap (((k+4:Nat):Int) - 4)).toNat (some c)]) ?_ (NH _ _ _ _ _) fun ν' w a hle hsub hgr ha=>?_
 ·rw [OV]
  simp only [af,hw]
  repeat' apply And.intro
  all_goals first | exact True.intro | with_reducible rfl | with_reducible assumption | exact decide_eq_false (by omega) | exact decide_eq_true ⟨by omega,by omega⟩ | (rw [htr,hst];done) | (rw [hsz,hl];done) | rfl
 obtain ⟨y1,as1,rfl,q1,ha2⟩:=ha.cons_inv
 obtain rfl:=ha2.aq
 obtain ⟨bb,hbb,hlb,rfl⟩:=VR.ay.1 q1
 have hbb:=hbb.symm.trans (hle 0 (b,0) rfl)
 cases hbb
 rw [hw,Int.toNat_natCast]
 have hsub':W.hp.Sub w.hp:=hsub
 refine (xI (b:=b) (o:=o) (n:=k) (c:=c) (hX.cr (a8 (Hp.Sub.refl _) hsub')) (iU (fS hIn0 hsub')) hlk (by omega) (by omega) hz2).mono fun e w' ⟨hBl,g,gc,rest,hgn,hlc,he,hh2,hsz2⟩=>?_
 have hsl:(cG (zs.take k)).length=k+4:=by unfold cG fI;simp [hlk]
 have hsr:=AQ hz2
 have hss:=gh (cG (zs.take k))
 have hsm:=dX hsr
 refine ⟨hBl,_,fun i=>.sl i 0 (k+4) none,.row ((cG (zs.take k)).map fun z=>SV.v (Value.int .u8 z)) 5 (0,0) (some 1),g,gc,_,he,hgn,hh2,fun ν2 i h2=>⟨⟨(cG (zs.take k)).map (Value.int .u8),rest,rfl,?_,?_⟩,VR.ay.2 ⟨(g,gc),h2,?_,?_⟩⟩,?_,fun M2 hK2=>?_⟩
 ·have:=aj.lits ν2 ((cG (zs.take k)).map (Value.int .u8))
  rw [List.map_map] at this
  exact this
 ·exact ⟨by simp,(g,gc),h2,by rw [hsz2];omega⟩
 ·show k+4≤gc - 0
  rw [hsl] at hlc;exact hlc
 ·rw [hsl];rfl
 ·rw [O1]
  simp only [af,hw]
  repeat' apply And.intro
  all_goals first | exact True.intro | with_reducible rfl | with_reducible assumption | exact decide_eq_false (by omega) | exact decide_eq_true ⟨by omega,by omega⟩ | (rw [htr,hst];done) | (rw [hsz,hl];done) | rfl
 show ao bq M2 w' cs0 _ _ _ (Ef (ak bC o zs) ((cG (zs.take k)).map fun z=>SV.v (Value.int .u8 z)) o (k+4) c (bt zs))
 have K2:=K.cy hK2.base
 have htk:List.take (k+4) (List.drop 0 ((cG (zs.take k)).map fun z=>SV.v (Value.int .u8 z)))=(cG (zs.take k)).map fun z=>SV.v (Value.int .u8 z):=List.take_of_length_le (by simp [hsl])
 by_cases he:zs=cG (zs.take k)
 ·rw [yH hl he]
  have hne:(!(bt (cG (zs.take k))).toList==(bt zs).toList)=false:=by rw [← he];simp
  have hdue:cp (aB bq 52 700 (Ef (ak bC o zs) ((cG (zs.take k)).map fun z=>SV.v (Value.int .u8 z)) o (k+4) c (bt zs)) [(0,.str (bt (cG (zs.take k)))),(1,.b false),(1000,.b true)] [(0,0)] [] (.tup [.sl 0 o (IntKind.i64.wrap (((k+4:Nat):Int) - 4)).toNat (some c),.v (.int .i64 0)]) [none]):=ah (Ns (ak bC o zs) ((cG (zs.take k)).map fun z=>SV.v (Value.int .u8 z)) o (k+4) c (bt (cG (zs.take k))) (bt zs)) (by
   simp only [af,hw,Nat.sub_zero,Nat.add_zero]
   repeat' apply And.intro
   all_goals first | exact True.intro | with_reducible rfl | with_reducible assumption | (rw [htk,hsm];done) | (rw [hss,hsl];done) | rfl)
  refine IQ K2 hdue fun ν2 w2 y hle2 hv hEM hh3=>?_
  obtain ⟨M3,w3,s',hB,oQ⟩:=hh3
  have hbel:=aG hM (hK2.base.trans hB) oQ
  obtain ⟨ta,rfl,hta⟩:=VR.bN.1 hv
  obtain ⟨y1,ta1,rfl,q1,hta1⟩:=hta.cons_inv
  obtain ⟨y2,ta2,rfl,q2,hta2⟩:=hta1.cons_inv
  obtain rfl:=hta2.aq
  obtain rfl:=VR.ab.1 q2
  obtain ⟨g2,eg,hgl,rfl⟩:=VR.ay.1 q1
  have eg2:(ν2.ren [(0,0)]) 0=some (b,0):=eW (by rfl) (hle2 0 (b,0) rfl)
  rw [eg2] at eg;cases eg
  refine ⟨hbel,.inr ⟨rfl,?_⟩⟩
  rw [hlk,hw,Int.toNat_natCast];rfl
 ·rw [AH hl he]
  have hne:(!(bt (cG (zs.take k))).toList==(bt zs).toList)=true:=by
   rw [Bool.not_eq_true',beq_eq_false_iff_ne]
   intro h
   rw [rS,rS] at h
   exact he (Dn hz hsr (ByteArray.ext (Array.ext' h.symm)))
  refine Ev K2 (ah (Ov (ak bC o zs) ((cG (zs.take k)).map fun z=>SV.v (Value.int .u8 z)) o (k+4) c (bt (cG (zs.take k))) (bt zs)) ?_) fun ν' M2 w2 s' w' hB2 hr=>⟨aG hM (hK2.base.trans hB2) hr,.inl ⟨by decide,rfl⟩⟩
  simp only [af]
  repeat' apply And.intro
  all_goals first | exact True.intro | with_reducible rfl | with_reducible assumption | (rw [htk,hsm];done) | (rw [hss,hsl];done) | rfl
end ez
end paths
end Go.Proofs.YtcbokmadfcedaaaGreatDoor
set_option linter.unusedSimpArgs false
set_option linter.unusedVariables false
set_option maxRecDepth 100000
namespace Go.Proofs.YtcbokmadfcedaaaGreatDoor
open Go Go.Rx Go.RowKit Go.Proofs
namespace paths
namespace ez
def dY (zs:List Int):Int × Nat × List c7:=if (bA zs).1=0 then dq (bA zs).2 else ((bA zs).1,0,[])
def bS:List (Nat × c9):=[(1000,.b true)]
noncomputable def qd (k:Int) (a:Option Addr) (n c:Nat):SM:=(aS bq 49 [.v (.agg #[.int .i64 k,.slice a n c])] (bc 6 0 0 [])).getD dx
noncomputable def xc (a:Option Addr) (n c:Nat) (v:Value):SM:=cK bq 89 100 (qd 1 a n c) bS (.v v)
noncomputable def Jb (a:Option Addr) (n c:Nat) (v u:Value):SM:=cK bq 90 100 (xc a n c v) bS (.v u)
theorem JI (a:Option Addr) (n c:Nat):au bq 49 100 (qd 2 a n c) bS (.tuple #[.pointer none,.int .i64 22])=[Value.tuple { toList:=[Value.pointer none,vZ 22]:Array Value }=Value.tuple { toList:=[Value.pointer none,vZ 22]:Array Value }]:=by kernel_rfl
theorem Jw (a:Option Addr) (n c:Nat):bB bq 89 100 (qd 1 a n c) bS=[]:=by kernel_rfl
theorem Kl (a:Option Addr) (n c:Nat):aR bq 89 100 (qd 1 a n c) bS=aP bq 89 [.v (.slice a n c)] .normal:=by kernel_rfl
theorem Jm (a a2:Option Addr) (n c n2 c2:Nat) (f:Int):bJ bq 89 100 (qd 1 a n c) bS (.v (.tuple #[.slice a2 n2 c2,.int .i64 f]))=[]:=by kernel_rfl
theorem Mg (a a2:Option Addr) (n c n2 c2:Nat) (f:Int):au bq 49 100 (xc a n c (.tuple #[.slice a2 n2 c2,.int .i64 f])) [(0,.b true),(1000,.b true)] (.tuple #[.pointer none,.int .i64 f])=[Value.tuple { toList:=[Value.pointer none,vZ f]:Array Value }=Value.tuple { toList:=[Value.pointer none,vZ f]:Array Value },(!f==0)=true]:=by kernel_rfl
theorem Oa (a a2:Option Addr) (n c n2 c2:Nat):bB bq 90 100 (xc a n c (.tuple #[.slice a2 n2 c2,.int .i64 0])) bS=[]:=by kernel_rfl
theorem JD (a a2:Option Addr) (n c n2 c2:Nat):aR bq 90 100 (xc a n c (.tuple #[.slice a2 n2 c2,.int .i64 0])) bS=aP bq 90 [.v (.slice a2 n2 c2)] .normal:=by kernel_rfl
theorem NV (a a2:Option Addr) (n c n2 c2:Nat) (p:Option Addr) (f:Int):bJ bq 90 100 (xc a n c (.tuple #[.slice a2 n2 c2,.int .i64 0])) bS (.v (.tuple #[.pointer p,.int .i64 f]))=[]:=by kernel_rfl
theorem MB (a a2:Option Addr) (n c n2 c2:Nat) (p:Option Addr) (f:Int):au bq 49 100 (Jb a n c (.tuple #[.slice a2 n2 c2,.int .i64 0]) (.tuple #[.pointer p,.int .i64 f])) bS (.tuple #[.pointer p,.int .i64 f])=[Value.tuple { toList:=[Value.pointer p,vZ f]:Array Value }=Value.tuple { toList:=[Value.pointer p,vZ f]:Array Value }]:=by kernel_rfl
noncomputable def CJ:SM:=(aS bq 89 [.v (.slice none 0 0)] (bc 6 0 0 [])).getD dx
theorem O3 (u:Unit):au bq 89 200 CJ bS (.tuple #[.slice none 0 0,.int .i64 11])=[Value.tuple { toList:=[Value.slice none 0 0,vZ 11]:Array Value }=Value.tuple { toList:=[Value.slice none 0 0,vZ 11]:Array Value }]:=by kernel_rfl
def bP:ByteArray:=⟨#[126,98,111,111,107]⟩
def du:ByteArray:=⟨#[114,101,97,100]⟩
def bL:ByteArray:=⟨#[108,111,97,100]⟩
def kD:SV:=.iface 199 (.v (.agg #[.pointer (some ⟨3,37,none⟩)]))
noncomputable def zD:Env:=EP [] [(0,0)]
def rK (op:ByteArray) (u:Nat):SO:=.row [.v (.string op),.v (.string bP),.v (.bool false),.sl u 0 1 (some 1)] 163 (0,0) none
def KJ (x:SV):SO:=.row [x] 37 (0,0) none
def Af (k:Int):SO:=KJ (.iface 66 (.v (.int .i64 k)))
def Gl (j:Nat):SO:=KJ (.iface 160 (.ptr j 0))
noncomputable def B8 (k:Int):SM:=(aS aQ 50 [.v (.int .i64 k),.v (.string du),.v (.string bP)] (bc 6 0 0 [])).getD dx
theorem ND (k:Int):aB aQ 50 100 (B8 k) [(0,.b false),(1000,.b true)] [(0,1),(1,0)] [] (.iface 160 (.ptr 0 0)) [some (rK du 1,true),some (Af k,true)]=[0=0,Value.string ⟨⟨[114,101,97,100]⟩⟩=Value.string ⟨⟨[114,101,97,100]⟩⟩,Value.string ⟨⟨[126,98,111,111,107]⟩⟩=Value.string ⟨⟨[126,98,111,111,107]⟩⟩,Value.bool false=Value.bool false,0=0∧1=1∧some 1=some 1,vZ k=vZ k,(k==0)=false]:=by kernel_rfl
noncomputable def Bw (k:Int):SM:=(aS zD 48 [.iface 160 (.ptr 1 0),.v (.string bL),.v (.string bP)] (bc 6 3 0 [eN [kD],some (rK du 2,false),some (Af k,false)])).getD dx
noncomputable def FX (k:Int):SM:=(aS zD 14 [.iface 160 (.ptr 1 0),.v (.int .i64 k),.v (.string bL),.v (.string bP)] (bc 6 5 0 [eN [kD],some (rK bL 2,false),some (Gl 3,false),some (rK du 4,false),some (Af k,false)])).getD dx
theorem OL (k:Int):aB zD 48 700 (Bw k) [(55,.b true),(61,.b false),(1000,.b true)] [(0,22),(1,21),(2,1)] [] (.iface 160 (.ptr 0 0)) [some (rK bL 1,true),some (Gl 2,true)]=[0=0,Value.string ⟨⟨[108,111,97,100]⟩⟩=Value.string ⟨⟨[108,111,97,100]⟩⟩,Value.string ⟨⟨[126,98,111,111,107]⟩⟩=Value.string ⟨⟨[126,98,111,111,107]⟩⟩,Value.bool false=Value.bool false,0=0∧1=1∧some 1=some 1,0=0,(k==0)=false,true=true,(!k==0)=true,true=true]:=by kernel_rfl
theorem Og (k:Int):au zD 14 2500 (FX k) [(0,.b false),(126,.b true),(205,.b true),(214,.b true),(215,.b true),(216,.b true),(217,.b true),(218,.b true),(219,.b true),(220,.b true),(221,.b true),(222,.b true),(223,.b true),(224,.b true),(225,.b true),(226,.b true),(227,.b true),(228,.b true),(229,.b true),(230,.b true),(231,.b true),(232,.b true),(233,.b true),(234,.b true),(235,.b true),(236,.b true),(237,.b true),(238,.b true),(239,.b true),(1000,.b true)] (.bool true)=[Value.bool true=Value.bool true,true=true,true=true,Nat.le 10 9223372036854775807,true=true,true=true,Nat.le 5 9223372036854775807,true=true,true=true,true=true,true=true,true=true,true=true,(k==k)=true,(k==k)=true,(k==k)=true,(k==k)=true,true=true,true=true,true=true,(!k==0)=true,true=true,true=true,(k==k)=true,true=true,true=true,true=true,Nat.le 10 9223372036854775807,Nat.le 5 9223372036854775807,true=true,Nat.le 10 9223372036854775807,Nat.le 5 9223372036854775807,(k==0)=false]:=by kernel_rfl
noncomputable def FI:SM:=(aS zD 14 [.v .nilIface,.v (.int .i64 0),.v (.string bL),.v (.string bP)] (bc 6 1 0 [eN [kD]])).getD dx
theorem L8 (u:Unit):au zD 14 100 FI [(1000,.b true)] (.bool true)=[Value.bool true=Value.bool true]:=by kernel_rfl
end ez
end paths
end Go.Proofs.YtcbokmadfcedaaaGreatDoor
set_option linter.unusedSimpArgs false
set_option linter.unusedVariables false
set_option maxRecDepth 100000
namespace Go.Proofs.YtcbokmadfcedaaaGreatDoor
open Go Go.Rx Go.RowKit Go.Proofs
namespace paths
namespace ez
open crc (crcN)
theorem wT {W0 W w1 w2:World} {s:Nat} {r:Int × List c7} {e:Ending} (h:Dd W s r e w1) (hB:Below W0.heap.size W0 w2) (hs:W0.heap.size≤W.heap.size) (hk:∀ k o,W.heap.size≤k→w1.heap[k]?=some o→w2.heap[k]?=some o):Dd W0 s r e w2:=by
 obtain ⟨_,h | ⟨h0,b,hb,he,h⟩⟩:=h
 ·exact ⟨hB,.inl h⟩
 ·refine ⟨hB,.inr ⟨h0,b,Nat.le_trans hs hb,he,?_⟩⟩
  rcases h with ⟨h1,h2⟩ | ⟨m,E,cl,hm,hA,hO,hE,hY,hl⟩
  ·exact .inl ⟨h1,hk _ _ hb h2⟩
  ·have hcont:∀ e∈E,dp w2.hp e.1=dp w1.hp e.1:=fun e he=>by
    obtain ⟨zs,hby,hn⟩:=hY e he
    rcases hby with ⟨ha,_,_⟩ | ⟨g,rest,ha,hg,_⟩
    ·unfold dp;rw [ha]
    ·have h2:w2.hp g=_:=hk g _ (hn _ ha) hg
     unfold dp;rw [ha];dsimp only;rw [hg,h2]
   refine .inr ⟨m,E,cl,Nat.le_trans hs hm,⟨hk _ _ hb hA.row,hk _ _ hm hA.map⟩,hO,?_,fun e he=>?_,hl⟩
   ·rw [← hE]
    refine List.map_congr_left fun e he=>?_
    simp only [KM,KE,hcont e he]
   ·obtain ⟨zs,hby,hn⟩:=hY e he
    refine ⟨zs,?_,fun a ha=>Nat.le_trans hs (hn a ha)⟩
    rcases hby with h | ⟨g,rest,ha,hg,hz⟩
    ·exact .inl h
    ·exact .inr ⟨g,rest,ha,hk g _ (hn _ ha) hg,hz⟩
theorem tT {M:Own} {w0:World} {cs0:List Frame} {f:FuncId} {R:Ending→World→Prop} {ν:aA} {n:Nat} {St:SM} {o:List (Nat × c9)} {v:Value} (K:aE bq M w0) (h:cp (Go.Rx.au bq f n St o v)) (hR:∀ ν' M1 w1 s' w',ν.Le ν'→bk M w0 M1 w1→HR ν' M1 w1 s' w'→R (.returned v) w'):ao bq M w0 cs0 f R ν St:=ao.au K h.out hR
theorem oA {M:Own} {w0:World} {cs0:List Frame} {f:FuncId} {R:Ending→World→Prop} {ν:aA} (K:aE bq M w0) {H0 H:Hp} {M00:Own} {w00:World} (hk:Kept H0 M00 w00 H M w0) {n:Nat} {g:FuncId} {S:SM} {o:List (Nat × c9)} {args:List SV} (h:cp (bB bq g n S o)) (hG:aR bq g n S o=aP bq g args .normal)
  (hc:∀ ν' w a,ν.Le ν'→H.Sub w.hp→GR ν' bq→aj ν' args a→Calls Tryz.prog g a.toArray w fun e w'=>Below w.heap.size w w'∧∃ y,e=.returned y∧(∀ M2,Kept H0 M00 w00 (H.grow w w') M2 w'→
   cp (bJ bq g n S o (.v y))∧ao bq M2 w' cs0 f R ν (cK bq g n S o (.v y)))):ao bq M w0 cs0 f R ν S:=
 ao.BM K hk h.out hG fun ν' w a hle hs hg ha=>(hc ν' w a hle hs hg ha).mono fun e w' ⟨hB,y,he,h⟩=>⟨hB,y,he,fun M2 hK=>⟨(h M2 hK).1.out,(h M2 hK).2⟩⟩
theorem B5 {W:World} (hX:eh W):Calls Tryz.prog 89 #[.slice none 0 0] W (HM W (11,[])):=by
 refine bV (E:=bq) rfl rfl (args:=[.v (.slice none 0 0)]) (a:=[.slice none 0 0]) (S0:=CJ) (by kernel_rfl) (aj.cons (VR.ab.2 rfl) aj.nil) fun cs0=>?_
 exact tT (zj a6 hX) (ah (O3 ()) (by simp [af])) fun ν' M2 w2 s' w' _ hB2 hr=>⟨aG a6 hB2 hr,.inl ⟨by decide,rfl⟩⟩
section
variable {W:World}
theorem AM (hX:eh W) {a:Option Addr} {n c:Nat}:Calls Tryz.prog 49 #[.agg #[.int .i64 2,.slice a n c]] W (Dd W 0 (22,[])):=by
 refine bV (E:=bq) rfl rfl (args:=[.v (.agg #[.int .i64 2,.slice a n c])]) (a:=[.agg #[.int .i64 2,.slice a n c]]) (S0:=qd 2 a n c) (by kernel_rfl) (aj.cons (VR.ab.2 rfl) aj.nil) fun cs0=>?_
 exact tT (zj a6 hX) (ah (JI a n c) (by simp [af])) fun ν' M2 w2 s' w' _ hB2 hr=>⟨aG a6 hB2 hr,.inl ⟨by decide,rfl⟩⟩
theorem vY (hm:MX W) (hX:eh W) {a:Option Addr} {n c:Nat} {r:Int × List Int} (hr:∀ z∈r.2,0≤z∧z<256) (hf:r.2.length≤140737488355328) (hO:∀ w,W.hp.Sub w.hp→Calls Tryz.prog 89 #[.slice a n c] w (HM w r)):
  Calls Tryz.prog 49 #[.agg #[.int .i64 1,.slice a n c]] W (Dd W (if r.1=0 then dq r.2 else (r.1,0,[])).2.1 ((if r.1=0 then dq r.2 else (r.1,0,[])).1,(if r.1=0 then dq r.2 else (r.1,0,[])).2.2)):=by
 refine bV (E:=bq) rfl rfl (args:=[.v (.agg #[.int .i64 1,.slice a n c])]) (a:=[.agg #[.int .i64 1,.slice a n c]]) (S0:=qd 1 a n c) (by kernel_rfl) (aj.cons (VR.ab.2 rfl) aj.nil) fun cs0=>?_
 have hM:∀ z,¬ (az [] []) z:=a6
 have hK0:=Kept.start (H0:=W.hp) (M:=az [] []) (w:=W) (Hp.Sub.refl _) (fun z o _=>hM z) (fun z h=>by obtain ⟨i,o,c,h,_⟩:=h;simp at h) (fun _ h=>h)
 have K:=zj hM hX
 refine oA K hK0 (n:=100) (g:=89) (o:=bS) (ah (Jw a n c) True.intro) (Kl a n c) fun ν' w aa hle hsub hgr ha=>?_
 obtain ⟨y1,as1,rfl,q1,ha2⟩:=ha.cons_inv
 obtain rfl:=ha2.aq
 obtain rfl:=VR.ab.1 q1
 refine (hO w hsub).mono fun e w' ⟨hB,h⟩=>?_
 rcases h with ⟨h1,rfl⟩ | ⟨h1,b,cc,hb,hlc,rfl,hIn,cs,fz,hh⟩
 ·refine ⟨hB,_,rfl,fun M2 hK2=>⟨ah (Jm a none n c 0 0 r.1) True.intro,?_⟩⟩
  show ao bq M2 w' cs0 _ _ _ (xc a n c (.tuple #[.slice none 0 0,.int .i64 r.1]))
  rw [if_neg h1]
  have hne:(!r.1==(0:Int))=true:=by simp [h1]
  exact tT (K.cy hK2.base) (ah (Mg a none n c 0 0 r.1) (by simp only [af];exact ⟨⟨True.intro,hne⟩,True.intro⟩)) fun ν' M3 w3 s' w'' _ hB3 hr=>⟨aG hM (hK2.base.trans hB3) hr,.inl ⟨h1,rfl⟩⟩
 ·obtain ⟨f,zs⟩:=r
  dsimp only at h1 hIn hlc hr hf
  subst h1
  refine ⟨hB,_,rfl,fun M2 hK2=>⟨ah (Jm a (some ⟨b,0,none⟩) n c zs.length cc 0) True.intro,?_⟩⟩
  show ao bq M2 w' cs0 _ _ _ (xc a n c (.tuple #[.slice (some ⟨b,0,none⟩) zs.length cc,.int .i64 0]))
  refine oA (K.cy hK2.base) hK2 (n:=100) (g:=90) (o:=bS) (ah (Oa a (some ⟨b,0,none⟩) n c zs.length cc) True.intro) (JD a (some ⟨b,0,none⟩) n c zs.length cc) fun ν2 w2 as2 hle2 hsub2 hgr2 ha2=>?_
  obtain ⟨y1,as1,rfl,q1,ha3⟩:=ha2.cons_inv
  obtain rfl:=ha3.aq
  obtain rfl:=VR.ab.1 q1
  have hg:∀ o,w'.heap[b]?=some o→w2.heap[b]?=some o:=fun o ho=>hsub2 b o (by unfold Hp.grow;rw [if_neg (by omega)];exact ho)
  have hXS:XS ⟨zs,b,0⟩ w2:=by
   refine ⟨hm.cr (a8 (Hp.Sub.refl _) ((Hp.cT hsub).trans hsub2)),?_,_,_,hg _ hh⟩
   obtain ⟨cs',e',fz',q1,q2,q3⟩:=hIn
   exact ⟨cs',e',fz',hg _ q1,q2,q3⟩
  have hSz:w2.heap.size≥W.heap.size:=by
   have:=hK2.base.size
   have:=a8 (Hp.Sub.refl _) ((Hp.cT hsub).trans hsub2)
   cases hz:W.heap.size with
   | zero=>omega
   | succ k=>
    have h2:=this k (by omega)
    rw [Array.getElem?_eq_getElem (by omega:k<W.heap.size)] at h2
    have:=(Array.getElem?_eq_some_iff.1 h2).1
    omega
  refine (qD hXS (S:=⟨zs,b,0⟩) ⟨hr,hf⟩ hlc).mono fun e w3 hR=>?_
  have hR0:=hR
  obtain ⟨hB3,h3⟩:=hR
  obtain ⟨p,f,rfl⟩:∃ p f,e=.returned (.tuple #[.pointer p,.int .i64 f]):=by
   rcases h3 with ⟨_,rfl⟩ | ⟨_,b,_,rfl,_⟩
   ·exact ⟨_,_,rfl⟩
   ·exact ⟨_,_,rfl⟩
  refine ⟨hB3,_,rfl,fun M4 hK4=>⟨ah (NV a (some ⟨b,0,none⟩) n c zs.length cc p f) True.intro,?_⟩⟩
  show ao bq M4 w3 cs0 _ _ _ (Jb a n c (.tuple #[.slice (some ⟨b,0,none⟩) zs.length cc,.int .i64 0]) (.tuple #[.pointer p,.int .i64 f]))
  refine tT (K.cy hK4.base) (ah (MB a (some ⟨b,0,none⟩) n c zs.length cc p f) (by simp [af])) fun ν' M5 w5 s' w'' _ hB5 hr5=>?_
  have hs5:=hK4.now hB5 hr5
  simp only [if_true]
  exact wT hR0 (aG hM (hK4.base.trans hB5) hr5) hSz fun k o hk ho=>hs5 k o (by unfold Hp.grow;rw [if_neg (by omega)];exact ho)
end
end ez
end paths
end Go.Proofs.YtcbokmadfcedaaaGreatDoor
set_option linter.unusedSimpArgs false
set_option linter.unusedVariables false
set_option maxRecDepth 100000
namespace Go.Proofs.YtcbokmadfcedaaaGreatDoor
open Go Go.Rx Go.RowKit Go.Proofs
namespace paths
namespace ez
theorem eL {E:Env} {w:World} {f:FuncId} {R:Ending→World→Prop} {P:Program} (hP:E.P=P) {args:List SV} {a:List Value} {d:Nat} {l:List (Nat × Nat)} {os:List SO} {S0:SM} (hlen:l.length=os.length) (hd:os.length≤2 ^ d) (hn:(l.map (·.1)).Nodup)
  (ho:∀ (i:Nat) (o:SO) (b c:Nat),os[i]?=some o→l[i]?=some (b,c)→∃ r,w.heap[b]?=some r∧OR (ax l) i o r) (hG:GR (ax l) E) (hS0:aS E f args (bc d os.length 0 (os.map fun o=>some (o,false)))=some S0) (ha:aj (ax l) args a)
  (hs:∀ cs0,ao E (az l (os.map fun o=>(o,false))) w cs0 f R (ax l) S0):Calls P f a.toArray w R:=by
 subst hP
 have ho':∀ (i:Nat) (o:SO) (m:Bool) (b c:Nat),(os.map fun o=>(o,false))[i]?=some (o,m)→l[i]?=some (b,c)→∃ r,w.heap[b]?=some r∧OR (ax l) i o r:=by
  intro i o m b c h1 h2
  rw [List.getElem?_map] at h1
  obtain ⟨o',h3,h4⟩:=Option.map_eq_some_iff.1 h1
  cases h4
  exact ho i o b c h3 h2
 have hr:=qk (d:=d) (w:=w) (by simpa using hlen) (by simpa using hd) hn ho'
 rw [List.map_map,List.length_map] at hr
 exact ey hS0 hr (ek ho') (fun _ h=>h) hG ha hs
theorem C9 {E:Env} {M:Own} {w0:World} {cs0:List Frame} {f:FuncId} {R:Ending→World→Prop} {ν:aA} {n:Nat} {St:SM} {o:List (Nat × c9)} {ren:List (Nat × Nat)} {eqs:List Nat} {x:SV} {l:List (Option (SO × Bool))} (K:aE E M w0) (h:cp (Go.Rx.aB E f n St o ren eqs x l))
  (hR:∀ ν' w' y,ν.Le ν'→VR (ν'.ren ren) x y→yg (ν'.ren ren) M w0 w' l→(∃ M1 w1 s',bk M w0 M1 w1∧HR ν' M1 w1 s' w')→R (.returned y) w'):ao E M w0 cs0 f R ν St:=ao.aB K h.out hR
def Bm (op:ByteArray) (u:Nat):Obj:=.cells #[.string op,.string bP,.bool false,.slice (some ⟨u,0,none⟩) 1 1] 163 (0,0)
def Jj (k:Int):Obj:=.cells #[.iface 66 (.int .i64 k)] 37 (0,0)
def Jl (a:Nat):Obj:=.cells #[.iface 160 (.pointer (some ⟨a,0,none⟩))] 37 (0,0)
def Hb (w:World) (a:Nat) (k:Int):Prop:=∃ u,w.heap[a]?=some (Bm du u)∧w.heap[u]?=some (Jj k)
def IT (w:World) (a:Nat) (k:Int):Prop:=∃ u b,w.heap[a]?=some (Bm bL u)∧w.heap[u]?=some (Jl b)∧Hb w b k
def kB (a:Nat):Value:=.iface 160 (.pointer (some ⟨a,0,none⟩))
theorem Dg {ν:aA} {j i u:Nat} {op:ByteArray} {c:Nat} (h:ν i=some (u,c)):OR ν j (rK op i) (Bm op u):=
 ⟨[.string op,.string bP,.bool false,.slice (some ⟨u,0,none⟩) 1 1],[],rfl,aj.cons (VR.ab.2 rfl) (aj.cons (VR.ab.2 rfl) (aj.cons (VR.ab.2 rfl) (aj.cons (VR.ay.2 ⟨(u,c),h,Nat.le_refl _,rfl⟩) aj.nil))),rfl⟩
theorem Gd {ν:aA} {j:Nat} {k:Int}:OR ν j (Af k) (Jj k):=⟨[.iface 66 (.int .i64 k)],[],rfl,aj.cons (VR.aK.2 ⟨_,rfl,VR.ab.2 rfl⟩) aj.nil,rfl⟩
theorem It {ν:aA} {j i a c:Nat} (h:ν i=some (a,c)):OR ν j (Gl i) (Jl a):=⟨[kB a],[],rfl,aj.cons (VR.aK.2 ⟨_,rfl,VR.aw.2 ⟨(a,c),h,rfl⟩⟩) aj.nil,rfl⟩
theorem FZ {ν:aA} {j i:Nat} {op:ByteArray} {ob:Obj} (h:OR ν j (rK op i) ob):∃ u c,ν i=some (u,c)∧ob=Bm op u:=by
 obtain ⟨ys,rest,rfl,hv,hx⟩:=h
 obtain ⟨y0,a,rfl,q0,hv⟩:=hv.cons_inv
 obtain ⟨y1,a,rfl,q1,hv⟩:=hv.cons_inv
 obtain ⟨y2,a,rfl,q2,hv⟩:=hv.cons_inv
 obtain ⟨y3,a,rfl,q3,hv⟩:=hv.cons_inv
 obtain rfl:=hv.aq
 obtain rfl:=VR.ab.1 q0
 obtain rfl:=VR.ab.1 q1
 obtain rfl:=VR.ab.1 q2
 obtain ⟨b,hb,_,rfl⟩:=VR.ay.1 q3
 have hx:(_++rest).length=4:=hx
 have:rest=[]:=by simpa using hx
 subst this
 exact ⟨b.1,b.2,hb,rfl⟩
theorem DD {ν:aA} {j:Nat} {x:SV} {ob:Obj} (h:OR ν j (KJ x) ob):∃ y,VR ν x y∧ob=.cells #[y] 37 (0,0):=by
 obtain ⟨ys,rest,rfl,hv,hx⟩:=h
 obtain ⟨y0,a,rfl,q0,hv⟩:=hv.cons_inv
 obtain rfl:=hv.aq
 have hx:([y0]++rest).length=1:=hx
 have:rest=[]:=by simpa using hx
 subst this
 exact ⟨y0,q0,rfl⟩
def fY (w:World):Prop:=Rx.Told w (0,[kD])
theorem fY.get {w:World} (h:fY w):∃ c e fz,w.heap[(0:Nat)]?=some (.cells c e fz)∧c[0]?=some (.iface 199 (.agg #[.pointer (some ⟨3,37,none⟩)])):=by
 obtain ⟨ys,c,e,fz,h1,h2,h3⟩:=h
 obtain ⟨y,a,rfl,q,hv⟩:=(h2 (fun _=>none)).cons_inv
 obtain rfl:=hv.aq
 obtain ⟨z,rfl,q2⟩:=VR.aK.1 q
 obtain rfl:=VR.ab.1 q2
 exact ⟨c,e,fz,h1,h3 0 _ rfl⟩
theorem fY.cr {W w:World} (h:fY W) (hk:∀ k,k<W.heap.size→w.heap[k]?=W.heap[k]?):fY w:=by
 obtain ⟨ys,c,e,fz,h1,h2,h3⟩:=h
 exact ⟨ys,c,e,fz,(hk _ (Array.getElem?_eq_some_iff.1 h1).1).trans h1,h2,h3⟩
theorem xq {w:World} (h:fY w) {ν:aA} {j:Nat}:∃ r,w.heap[(0:Nat)]?=some r∧OR ν j (.look [kD]) r:=by
 obtain ⟨ys,c,e,fz,h1,h2,h3⟩:=h
 exact ⟨_,h1,ys,c,e,fz,rfl,h2 ν,h3⟩
section
variable {W:World}
theorem CC {k:Int} (h0:k≠0):Calls Tryz.prog 50 #[.int .i64 k,.string du,.string bP] W fun e w'=>Below W.heap.size W w'∧∃ a u,W.heap.size≤a∧W.heap.size≤u∧e=.returned (kB a)∧w'.heap[a]?=some (Bm du u)∧w'.heap[u]?=some (Jj k):=by
 refine bV (E:=aQ) rfl rfl (args:=[.v (.int .i64 k),.v (.string du),.v (.string bP)]) (a:=[.int .i64 k,.string du,.string bP]) (S0:=B8 k) (by kernel_rfl) (aj.lits _ [.int .i64 k,.string du,.string bP]) fun cs0=>?_
 have hne:(k==(0:Int))=false:=by simp [h0]
 have hd:cp (aB aQ 50 100 (B8 k) [(0,.b false),(1000,.b true)] [(0,1),(1,0)] [] (.iface 160 (.ptr 0 0)) [some (rK du 1,true),some (Af k,true)]):=ah (ND k) (by simp only [af,hne,and_self])
 refine C9 kR hd fun ν' w' y hle hv hEM hh=>?_
 obtain ⟨M3,w3,s',hB,hr⟩:=hh
 have hbel:=aG a6 hB hr
 obtain ⟨z,rfl,hz⟩:=VR.aK.1 hv
 obtain ⟨b,hb,rfl⟩:=VR.aw.1 hz
 obtain ⟨b1,o1,hb1,ho1,hor1,hw1⟩:=hEM.obj 0 _ _ rfl
 obtain ⟨b2,o2,hb2,ho2,hor2,hw2⟩:=hEM.obj 1 _ _ rfl
 rw [hb] at hb1;cases hb1
 obtain ⟨u,c,hu,rfl⟩:=FZ hor1
 rw [hb2] at hu;cases hu
 obtain ⟨y,hy,rfl⟩:=DD hor2
 obtain ⟨z,rfl,hz2⟩:=VR.aK.1 hy
 obtain rfl:=VR.ab.1 hz2
 exact ⟨hbel,b.1,u,(hw1 rfl).resolve_right (a6 _),(hw2 rfl).resolve_right (a6 _),rfl,ho1,ho2⟩
theorem wN {w:World} {a b:Nat} {op:ByteArray} {u:Nat} {x:Value} {e:TypeId} {fz:Nat × Nat} (h1:w.heap[a]?=some (Bm op u)) (h2:w.heap[b]?=some (.cells #[x] e fz)):a≠b:=by
 intro h;subst h;rw [h1] at h2;cases h2
theorem AE {w:World} (h:fY w) {b:Nat} {c:Array Value} {e:TypeId} {fz:Nat × Nat} (hb:w.heap[b]?=some (.cells c e fz)) (hc:∀ x,c[0]?=some x→∀ y,x≠.iface 199 y):(0:Nat)≠b:=by
 obtain ⟨c',e',fz',h1,h2⟩:=h.get
 intro hh;subst hh;rw [h1] at hb;cases hb
 exact hc _ h2 _ rfl
theorem xS {l:List (Nat × Nat)} (h:ax l 0=some ((0:Nat),0)):GR (ax l) zD:=fun g i hh=>by
 have:([((0:Nat),0)]:List (Nat × Nat)).lookup g=some i:=hh
 simp only [List.lookup] at this
 split at this
 ·rename_i hg
  cases this
  exact ⟨0,by rw [eq_of_beq hg];exact h⟩
 ·cases this
theorem xK (hT:fY W) {a:Nat} {k:Int} (h0:k≠0) (hE:Hb W a k):Calls Tryz.prog 48 #[kB a,.string bL,.string bP] W fun e w'=>Below W.heap.size W w'∧∃ b v,W.heap.size≤b∧W.heap.size≤v∧e=.returned (kB b)∧w'.heap[b]?=some (Bm bL v)∧w'.heap[v]?=some (Jl a):=by
 obtain ⟨u,ha,hu⟩:=hE
 have ho:∀ (j:Nat) (o':SO) (b' c':Nat),[SO.look [kD],rK du 2,Af k][j]?=some o'→[((0:Nat),0),(a,0),(u,0)][j]?=some (b',c')→∃ r,W.heap[b']?=some r∧OR (ax [((0:Nat),0),(a,0),(u,0)]) j o' r:=by
  intro j o' b' c' q1 q2
  match j with
  | 0=>cases q1;cases q2;exact xq hT
  | 1=>cases q1;cases q2;exact ⟨_,ha,Dg rfl⟩
  | 2=>cases q1;cases q2;exact ⟨_,hu,Gd⟩
  | j+3=>simp at q1
 have n1:(0:Nat)≠a:=AE hT ha (fun x hx y h=>by cases hx;cases h)
 have n2:(0:Nat)≠u:=AE hT hu (fun x hx y h=>by cases hx;cases h)
 have n3:a≠u:=wN ha hu
 have hM:∀ z,¬ (az [((0:Nat),0),(a,0),(u,0)] ([SO.look [kD],rK du 2,Af k].map fun o=>(o,false))) z:=fun z=>aO (os:=[_,_,_])
 refine eL (E:=zD) rfl (d:=6) (l:=[((0:Nat),0),(a,0),(u,0)]) (os:=[.look [kD],rK du 2,Af k]) rfl (by simp) (by simp [n1,n2,n3]) ho (xS rfl) (args:=[.iface 160 (.ptr 1 0),.v (.string bL),.v (.string bP)]) (a:=[kB a,.string bL,.string bP]) (S0:=Bw k) (by kernel_rfl) (aj.cons (VR.aK.2 ⟨_,rfl,VR.aw.2 ⟨(a,0),rfl,rfl⟩⟩) (aj.cons (VR.ab.2 rfl) (aj.cons (VR.ab.2 rfl) aj.nil))) fun cs0=>?_
 have hne:(k==(0:Int))=false:=by simp [h0]
 have hne2:(!k==(0:Int))=true:=by simp [h0]
 have hd:cp (aB zD 48 700 (Bw k) [(55,.b true),(61,.b false),(1000,.b true)] [(0,22),(1,21),(2,1)] [] (.iface 160 (.ptr 0 0)) [some (rK bL 1,true),some (Gl 2,true)]):=ah (OL k) (by simp only [af,hne,hne2,Bool.not_false,and_self])
 have K:aE zD (az [((0:Nat),0),(a,0),(u,0)] ([SO.look [kD],rK du 2,Af k].map fun o=>(o,false))) W:=iL (X:=fun _=>True) (fun r hr=>(nomatch hr)) fun _ _ _ _ _=>trivial
 refine C9 K hd fun ν' w' y hle hv hEM hh=>?_
 obtain ⟨M3,w3,s',hB,hr⟩:=hh
 have hbel:=aG hM hB hr
 obtain ⟨z,rfl,hz⟩:=VR.aK.1 hv
 obtain ⟨b,hb,rfl⟩:=VR.aw.1 hz
 obtain ⟨b1,o1,hb1,ho1,hor1,hw1⟩:=hEM.obj 0 _ _ rfl
 obtain ⟨b2,o2,hb2,ho2,hor2,hw2⟩:=hEM.obj 1 _ _ rfl
 rw [hb] at hb1;cases hb1
 obtain ⟨v,c,hv',rfl⟩:=FZ hor1
 rw [hb2] at hv';cases hv'
 obtain ⟨y,hy,rfl⟩:=DD hor2
 obtain ⟨z,rfl,hz2⟩:=VR.aK.1 hy
 obtain ⟨g,hg,rfl⟩:=VR.aw.1 hz2
 have hg2:(ν'.ren [(0,22),(1,21),(2,1)]) 2=some (a,0):=eW (by rfl) (hle 1 (a,0) rfl)
 rw [hg2] at hg;cases hg
 exact ⟨hbel,b.1,v,(hw1 rfl).resolve_right (hM _),(hw2 rfl).resolve_right (hM _),rfl,ho1,ho2⟩
theorem DA {E:Env} {M:Own} {w0:World} {cs0:List Frame} {f:FuncId} {R:Ending→World→Prop} {ν:aA} {n:Nat} {St:SM} {o:List (Nat × c9)} {v:Value} (K:aE E M w0) (h:cp (Go.Rx.au E f n St o v)) (hR:∀ ν' M1 w1 s' w',ν.Le ν'→bk M w0 M1 w1→HR ν' M1 w1 s' w'→R (.returned v) w'):ao E M w0 cs0 f R ν St:=ao.au K h.out hR
theorem wy (hT:fY W) {b:Nat} {k:Int} (h0:k≠0) (hE:IT W b k):Calls Tryz.prog 14 #[kB b,.int .i64 k,.string bL,.string bP] W fun e w'=>Below W.heap.size W w'∧e=.returned (.bool true):=by
 obtain ⟨v,a,hb,hv,u,ha,hu⟩:=hE
 have ho:∀ (j:Nat) (o':SO) (b' c':Nat),[SO.look [kD],rK bL 2,Gl 3,rK du 4,Af k][j]?=some o'→[((0:Nat),0),(b,0),(v,0),(a,0),(u,0)][j]?=some (b',c')→∃ r,W.heap[b']?=some r∧OR (ax [((0:Nat),0),(b,0),(v,0),(a,0),(u,0)]) j o' r:=by
  intro j o' b' c' q1 q2
  match j with
  | 0=>cases q1;cases q2;exact xq hT
  | 1=>cases q1;cases q2;exact ⟨_,hb,Dg rfl⟩
  | 2=>cases q1;cases q2;exact ⟨_,hv,It rfl⟩
  | 3=>cases q1;cases q2;exact ⟨_,ha,Dg rfl⟩
  | 4=>cases q1;cases q2;exact ⟨_,hu,Gd⟩
  | j+5=>simp at q1
 have n1:(0:Nat)≠b:=AE hT hb (fun x hx y h=>by cases hx;cases h)
 have n2:(0:Nat)≠v:=AE hT hv (fun x hx y h=>by cases hx;cases h)
 have n3:(0:Nat)≠a:=AE hT ha (fun x hx y h=>by cases hx;cases h)
 have n4:(0:Nat)≠u:=AE hT hu (fun x hx y h=>by cases hx;cases h)
 have n5:b≠v:=wN hb hv
 have n6:b≠a:=fun h=>by
  subst h;rw [hb] at ha
  have h1:Bm bL v=Bm du u:=Option.some.inj ha
  unfold Bm at h1
  have this:bL=du:=by injection h1 with h2;simp at h2;exact h2.1
  exact absurd this (by decide)
 have n7:b≠u:=wN hb hu
 have n8:a≠v:=wN ha hv
 have n9:a≠u:=wN ha hu
 have n10:v≠u:=fun h=>by subst h;rw [hv] at hu;cases hu
 have hM:∀ z,¬ (az [((0:Nat),0),(b,0),(v,0),(a,0),(u,0)] ([SO.look [kD],rK bL 2,Gl 3,rK du 4,Af k].map fun o=>(o,false))) z:=fun z=>aO (os:=[_,_,_,_,_])
 refine eL (E:=zD) rfl (d:=6) (l:=[((0:Nat),0),(b,0),(v,0),(a,0),(u,0)]) (os:=[.look [kD],rK bL 2,Gl 3,rK du 4,Af k]) rfl (by simp) (by simp [n1,n2,n3,n4,n5,n6,n7,n8.symm,n9,n10]) ho (xS rfl) (args:=[.iface 160 (.ptr 1 0),.v (.int .i64 k),.v (.string bL),.v (.string bP)]) (a:=[kB b,.int .i64 k,.string bL,.string bP]) (S0:=FX k) (by kernel_rfl) (aj.cons (VR.aK.2 ⟨_,rfl,VR.aw.2 ⟨(b,0),rfl,rfl⟩⟩) (aj.cons (VR.ab.2 rfl) (aj.cons (VR.ab.2 rfl) (aj.cons (VR.ab.2 rfl) aj.nil)))) fun cs0=>?_
 have hne:(k==(0:Int))=false:=by simp [h0]
 have hne2:(!k==(0:Int))=true:=by simp [h0]
 have hkk:(k==k)=true:=by simp
 have K:aE zD (az [((0:Nat),0),(b,0),(v,0),(a,0),(u,0)] ([SO.look [kD],rK bL 2,Gl 3,rK du 4,Af k].map fun o=>(o,false))) W:=iL (X:=fun _=>True) (fun r hr=>(nomatch hr)) fun _ _ _ _ _=>trivial
 refine DA K (ah (Og k) ?_) fun ν' M1 w1 s' w' _ hB hr=>⟨aG hM hB hr,rfl⟩
 have l1:Nat.le 10 9223372036854775807:=Nat.le_of_ble_eq_true rfl
 have l2:Nat.le 5 9223372036854775807:=Nat.le_of_ble_eq_true rfl
 simp only [af,hne,hne2,hkk,l1,l2,Bool.not_false,and_self]
theorem AK (hT:fY W):Calls Tryz.prog 14 #[.nilIface,.int .i64 0,.string bL,.string bP] W fun e w'=>Below W.heap.size W w'∧e=.returned (.bool true):=by
 have ho:∀ (j:Nat) (o':SO) (b' c':Nat),[SO.look [kD]][j]?=some o'→[((0:Nat),0)][j]?=some (b',c')→∃ r,W.heap[b']?=some r∧OR (ax [((0:Nat),0)]) j o' r:=by
  intro j o' b' c' q1 q2
  match j with
  | 0=>cases q1;cases q2;exact xq hT
  | j+1=>simp at q1
 refine eL (E:=zD) rfl (d:=6) (l:=[((0:Nat),0)]) (os:=[.look [kD]]) rfl (by simp) (by simp) ho (xS rfl) (args:=[.v .nilIface,.v (.int .i64 0),.v (.string bL),.v (.string bP)]) (a:=[.nilIface,.int .i64 0,.string bL,.string bP]) (S0:=FI) (by kernel_rfl) (aj.lits _ [.nilIface,.int .i64 0,.string bL,.string bP]) fun cs0=>?_
 have K:aE zD (az [((0:Nat),0)] ([SO.look [kD]].map fun o=>(o,false))) W:=iL (X:=fun _=>True) (fun r hr=>(nomatch hr)) fun _ _ _ _ _=>trivial
 exact DA K (ah (L8 ()) (by simp [af])) fun ν' M1 w1 s' w' _ hB hr=>⟨aG (fun z=>aO (os:=[_])) hB hr,rfl⟩
end
def Js (vs vg:Value):SO:=.look [.ptr 1 0,.map 2,.v vs,.v vg,.v (.int .i64 (-1))]
def Ju (lst room:Int):SO:=.look [.map 3,.v (.int .i64 lst),.v (.int .i64 room),.v (.int .i64 (-1))]
def Ji (dir:Bool) (f:Int) (bn cl:Nat):SO:=.map [(.v (.string bP),.v (.agg #[.bool dir,.int .i64 f]),bn)] cl
def La (x:SV) (sure:Int) (bn cl:Nat):SO:=.map [(.v (.int .i64 1),.agg [x,.v (.int .i64 sure)],bn)] cl
structure gF where
 vs:Value
 vg:Value
 lst:Int
 room:Int
 sure:Int
 bn:Nat
 cl:Nat
 bn2:Nat
 cl2:Nat
def vF (p:gF):List SO:=[Js p.vs p.vg,.look [],Ji true 0 p.bn p.cl]
def wC (p:gF):List SO:=[Js p.vs p.vg,Ju p.lst p.room,Ji false 1 p.bn p.cl,La (.v (.slice none 0 0)) p.sure p.bn2 p.cl2]
def sY (p:gF) (o n c:Nat) (xs:List SV):List SO:=[Js p.vs p.vg,Ju p.lst p.room,Ji false 1 p.bn p.cl,La (.sl 4 o n (some c)) p.sure p.bn2 p.cl2,.look xs]
noncomputable def gQ (os:List SO):SM:=(aS bq 12 [.ptr 0 0] (bc 6 os.length 0 (os.map fun o=>some (o,false)))).getD dx
def oF (p:gF) (o n c:Nat) (arr:Array Value):List (Nat × c9):=[(57,.cells [.sl 4 o n (some c),.v (.int .i64 p.sure)]),(58,.cells [.sl 4 o n (some c),.v (.int .i64 p.sure)]),(59,.cells [.sl 4 o n (some c)]),(60,.cells [.v (.agg arr)]),(1000,.b true)]
def Fw (q:Option Addr) (f:Int):Value:=.tuple #[.pointer q,.int .i64 f]
noncomputable def kz (os:List SO) (O:List (Nat × c9)) (q:Option Addr) (f:Int):SM:=cK bq 49 2000 (gQ os) O (.v (Fw q f))
def zh:List (Nat × c9):=[(0,.b true),(1000,.b true)]
noncomputable def lQ (os:List SO) (O:List (Nat × c9)) (q:Option Addr) (f:Int) (a:Nat):SM:=cK bq 50 200 (kz os O q f) zh (.v (kB a))
noncomputable def Cn (os:List SO) (O:List (Nat × c9)) (q:Option Addr) (f:Int) (a b:Nat):SM:=cK bq 48 200 (lQ os O q f a) bS (.v (kB b))
theorem OW (p:gF):bB bq 49 2000 (gQ (vF p)) bS=[true=true,true=true]:=by kernel_rfl
theorem Om (p:gF):aR bq 49 2000 (gQ (vF p)) bS=aP bq 49 [.agg [.v (.int .i64 2),.v (.slice none 0 0)]] .normal:=by kernel_rfl
theorem LW (p:gF) (q:Option Addr) (f:Int):bJ bq 49 2000 (gQ (vF p)) bS (.v (Fw q f))=[true=true,true=true]:=by kernel_rfl
theorem OA (p:gF) (q:Option Addr) (f:Int):bB bq 50 200 (kz (vF p) bS q f) zh=[(!f==0)=true]:=by kernel_rfl
theorem KW (p:gF) (q:Option Addr) (f:Int):aR bq 50 200 (kz (vF p) bS q f) zh=aP bq 50 [.v (.int .i64 f),.v (.string du),.v (.string bP)] .normal:=by kernel_rfl
theorem NU (p:gF) (q:Option Addr) (f:Int) (a:Nat):bJ bq 50 200 (kz (vF p) bS q f) zh (.v (kB a))=[(!f==0)=true]:=by kernel_rfl
theorem Nw (p:gF) (q:Option Addr) (f:Int) (a:Nat):bB bq 48 200 (lQ (vF p) bS q f a) bS=[]:=by kernel_rfl
theorem Lc (p:gF) (q:Option Addr) (f:Int) (a:Nat):aR bq 48 200 (lQ (vF p) bS q f a) bS=aP bq 48 [.v (kB a),.v (.string bL),.v (.string bP)] .normal:=by kernel_rfl
theorem M8 (p:gF) (q:Option Addr) (f:Int) (a:Nat) (b:Nat):bJ bq 48 200 (lQ (vF p) bS q f a) bS (.v (kB b))=[]:=by kernel_rfl
theorem Mx (p:gF) (q:Option Addr) (f:Int) (a:Nat) (b:Nat):au bq 12 200 (Cn (vF p) bS q f a b) bS (.tuple #[.pointer none,kB b])=[Value.tuple { toList:=[Value.pointer none,Value.iface 160 (Value.pointer (some { block:=b,off:=0:Addr }))]:Array Value }=Value.tuple { toList:=[Value.pointer none,Value.iface 160 (Value.pointer (some { block:=b,off:=0:Addr }))]:Array Value }]:=by kernel_rfl
theorem MI (p:gF):bB bq 49 2000 (gQ (wC p)) bS=[(none:Option Addr)=none,true=true,true=true]:=by kernel_rfl
theorem O9 (p:gF):aR bq 49 2000 (gQ (wC p)) bS=aP bq 49 [.agg [.v (.int .i64 1),.v (.slice none 0 0)]] .normal:=by kernel_rfl
theorem ML (p:gF) (q:Option Addr) (f:Int):bJ bq 49 2000 (gQ (wC p)) bS (.v (Fw q f))=[(none:Option Addr)=none,true=true,true=true]:=by kernel_rfl
theorem Np (p:gF) (q:Option Addr) (f:Int):bB bq 50 200 (kz (wC p) bS q f) zh=[(!f==0)=true]:=by kernel_rfl
theorem Lf (p:gF) (q:Option Addr) (f:Int):aR bq 50 200 (kz (wC p) bS q f) zh=aP bq 50 [.v (.int .i64 f),.v (.string du),.v (.string bP)] .normal:=by kernel_rfl
theorem Mn (p:gF) (q:Option Addr) (f:Int) (a:Nat):bJ bq 50 200 (kz (wC p) bS q f) zh (.v (kB a))=[(!f==0)=true]:=by kernel_rfl
theorem Nq (p:gF) (q:Option Addr) (f:Int) (a:Nat):bB bq 48 200 (lQ (wC p) bS q f a) bS=[]:=by kernel_rfl
theorem JX (p:gF) (q:Option Addr) (f:Int) (a:Nat):aR bq 48 200 (lQ (wC p) bS q f a) bS=aP bq 48 [.v (kB a),.v (.string bL),.v (.string bP)] .normal:=by kernel_rfl
theorem Ot (p:gF) (q:Option Addr) (f:Int) (a:Nat) (b:Nat):bJ bq 48 200 (lQ (wC p) bS q f a) bS (.v (kB b))=[]:=by kernel_rfl
theorem OB (p:gF) (q:Option Addr) (f:Int) (a:Nat) (b:Nat):au bq 12 200 (Cn (wC p) bS q f a b) bS (.tuple #[.pointer none,kB b])=[Value.tuple { toList:=[Value.pointer none,Value.iface 160 (Value.pointer (some { block:=b,off:=0:Addr }))]:Array Value }=Value.tuple { toList:=[Value.pointer none,Value.iface 160 (Value.pointer (some { block:=b,off:=0:Addr }))]:Array Value }]:=by kernel_rfl
theorem N7 (p:gF) (o n c:Nat) (xs:List SV) (arr:Array Value):bB bq 49 2000 (gQ (sY p o n c xs)) (oF p o n c arr)=[gE xs o n arr,(aX (List.map SV.v [Value.slice none 0 0,vZ 0]) 0 [SV.sl 4 o n (some c),SV.v (vZ p.5)])[0]?=some (SV.sl 4 o n (some c)),List.take 2 (List.drop 0 (aX (List.map SV.v [Value.slice none 0 0,vZ 0]) 0 [SV.sl 4 o n (some c),SV.v (vZ p.5)]))=[SV.sl 4 o n (some c),SV.v (vZ p.5)]∧[SV.sl 4 o n (some c),SV.v (vZ p.5)].length=2,List.take 2 (List.drop 0 (aX (List.map SV.v [Value.slice none 0 0,vZ 0]) 0 [SV.sl 4 o n (some c),SV.v (vZ p.5)]))=[SV.sl 4 o n (some c),SV.v (vZ p.5)]∧[SV.sl 4 o n (some c),SV.v (vZ p.5)].length=2,true=true,true=true]:=by kernel_rfl
theorem MJ (p:gF) (o n c:Nat) (xs:List SV) (arr:Array Value):aR bq 49 2000 (gQ (sY p o n c xs)) (oF p o n c arr)=aP bq 49 [.agg [.v (.int .i64 1),.sl 17 0 n none]] .normal:=by kernel_rfl
theorem LQ (p:gF) (o n c:Nat) (xs:List SV) (arr:Array Value) (q:Option Addr) (f:Int):bJ bq 49 2000 (gQ (sY p o n c xs)) (oF p o n c arr) (.v (Fw q f))=[gE xs o n arr,(aX (List.map SV.v [Value.slice none 0 0,vZ 0]) 0 [SV.sl 4 o n (some c),SV.v (vZ p.5)])[0]?=some (SV.sl 4 o n (some c)),List.take 2 (List.drop 0 (aX (List.map SV.v [Value.slice none 0 0,vZ 0]) 0 [SV.sl 4 o n (some c),SV.v (vZ p.5)]))=[SV.sl 4 o n (some c),SV.v (vZ p.5)]∧[SV.sl 4 o n (some c),SV.v (vZ p.5)].length=2,List.take 2 (List.drop 0 (aX (List.map SV.v [Value.slice none 0 0,vZ 0]) 0 [SV.sl 4 o n (some c),SV.v (vZ p.5)]))=[SV.sl 4 o n (some c),SV.v (vZ p.5)]∧[SV.sl 4 o n (some c),SV.v (vZ p.5)].length=2,true=true,true=true]:=by kernel_rfl
theorem Nn (p:gF) (o n c:Nat) (xs:List SV) (arr:Array Value) (q:Option Addr) (f:Int):bB bq 50 200 (kz (sY p o n c xs) (oF p o n c arr) q f) zh=[(!f==0)=true]:=by kernel_rfl
theorem KT (p:gF) (o n c:Nat) (xs:List SV) (arr:Array Value) (q:Option Addr) (f:Int):aR bq 50 200 (kz (sY p o n c xs) (oF p o n c arr) q f) zh=aP bq 50 [.v (.int .i64 f),.v (.string du),.v (.string bP)] .normal:=by kernel_rfl
theorem LX (p:gF) (o n c:Nat) (xs:List SV) (arr:Array Value) (q:Option Addr) (f:Int) (a:Nat):bJ bq 50 200 (kz (sY p o n c xs) (oF p o n c arr) q f) zh (.v (kB a))=[(!f==0)=true]:=by kernel_rfl
theorem O7 (p:gF) (o n c:Nat) (xs:List SV) (arr:Array Value) (q:Option Addr) (f:Int) (a:Nat):bB bq 48 200 (lQ (sY p o n c xs) (oF p o n c arr) q f a) bS=[]:=by kernel_rfl
theorem Ks (p:gF) (o n c:Nat) (xs:List SV) (arr:Array Value) (q:Option Addr) (f:Int) (a:Nat):aR bq 48 200 (lQ (sY p o n c xs) (oF p o n c arr) q f a) bS=aP bq 48 [.v (kB a),.v (.string bL),.v (.string bP)] .normal:=by kernel_rfl
theorem MU (p:gF) (o n c:Nat) (xs:List SV) (arr:Array Value) (q:Option Addr) (f:Int) (a:Nat) (b:Nat):bJ bq 48 200 (lQ (sY p o n c xs) (oF p o n c arr) q f a) bS (.v (kB b))=[]:=by kernel_rfl
theorem Ni (p:gF) (o n c:Nat) (xs:List SV) (arr:Array Value) (q:Option Addr) (f:Int) (a:Nat) (b:Nat):au bq 12 200 (Cn (sY p o n c xs) (oF p o n c arr) q f a b) bS (.tuple #[.pointer none,kB b])=[Value.tuple { toList:=[Value.pointer none,Value.iface 160 (Value.pointer (some { block:=b,off:=0:Addr }))]:Array Value }=Value.tuple { toList:=[Value.pointer none,Value.iface 160 (Value.pointer (some { block:=b,off:=0:Addr }))]:Array Value }]:=by kernel_rfl
theorem Mf (p:gF) (o n c:Nat) (xs:List SV) (arr:Array Value) (q:Option Addr) (f:Int):au bq 12 200 (kz (sY p o n c xs) (oF p o n c arr) q f) [(0,.b false),(1000,.b true)] (.tuple #[.pointer q,.nilIface])=[Value.tuple { toList:=[Value.pointer q,Value.nilIface]:Array Value }=Value.tuple { toList:=[Value.pointer q,Value.nilIface]:Array Value },(!f==0)=false]:=by kernel_rfl
theorem Gs (p:gF) (o n c:Nat) (xs:List SV) (arr:Array Value):fA bq 49 2000 (gQ (sY p o n c xs)) (oF p o n c arr) 17=some (.row (arr.toList.map SV.v) 5 (0,0) (some 1),true):=by kernel_rfl
def I1 (W w:World) (a:Nat) (k:Int):Prop:=∃ u b v,(W.heap.size≤a∧W.heap.size≤u∧W.heap.size≤b∧W.heap.size≤v)∧w.heap[a]?=some (Bm bL u)∧w.heap[u]?=some (Jl b)∧w.heap[b]?=some (Bm du v)∧w.heap[v]?=some (Jj k)
def GZ (W : World) (r : Int × Nat × List c7) (e : Ending) (w' : World) : Prop := Below W.heap.size W w' ∧
  ((r.1 ≠ 0 ∧ ∃ b, e = .returned (.tuple #[.pointer none, kB b]) ∧ I1 W w' b r.1) ∨
   (r.1 = 0 ∧ ∃ q, e = .returned (.tuple #[.pointer q, .nilIface]) ∧ Dd W r.2.1 (r.1, r.2.2) (.returned (.tuple #[.pointer q, .int .i64 0])) w'))
theorem size_le {W w:World} (h:W.hp.Sub w.hp):W.heap.size≤w.heap.size:=by
 cases hz:W.heap.size with
 | zero=>omega
 | succ k=>
  have h2:=a8 (Hp.Sub.refl _) h k (by omega)
  rw [Array.getElem?_eq_getElem (by omega:k<W.heap.size)] at h2
  have:=(Array.getElem?_eq_some_iff.1 h2).1
  omega
theorem eP {H:Hp} {w w':World} {b:Nat} {o:Obj} (hb:w.heap.size≤b) (h:w'.heap[b]?=some o):(H.grow w w') b=some o:=by
 unfold Hp.grow;rw [if_neg (by omega)];exact h
theorem GY {M:Own} {w0:World} {cs0:List Frame} {f:FuncId} {R:Ending→World→Prop} {ν:aA} (K:aE bq M w0) {H0 H:Hp} {M00:Own} {w00:World} (hk:Kept H0 M00 w00 H M w0) {n:Nat} {g:FuncId} {S:SM} {o:List (Nat × c9)} {args:List SV} (h:cp (bB bq g n S o)) (hG:aR bq g n S o=aP bq g args .normal)
  (hc:∀ ν' w a,ν.Le ν'→H.Sub w.hp→GR ν' bq→aj ν' args a→(∀ i so m,fA bq g n S o i=some (so,m)→∃ b o,ν' i=some b∧w.heap[b.1]?=some o∧OR ν' i so o)→Calls Tryz.prog g a.toArray w fun e w'=>Below w.heap.size w w'∧∃ y,e=.returned y∧(∀ M2,Kept H0 M00 w00 (H.grow w w') M2 w'→
   cp (bJ bq g n S o (.v y))∧ao bq M2 w' cs0 f R ν (cK bq g n S o (.v y)))):ao bq M w0 cs0 f R ν S:=
 ao.Gb K hk h.out hG fun ν' w a hle hs hg ha hl=>(hc ν' w a hle hs hg ha hl).mono fun e w' ⟨hB,y,he,h⟩=>⟨hB,y,he,fun M2 hK=>⟨(h M2 hK).1.out,(h M2 hK).2⟩⟩
section
variable {W:World} {M:Own} {cs0:List Frame} {ν:aA}
theorem B4 (hX:eh W) (hM:∀ z,¬ M z) (hT:fY W) {os:List SO} {O:List (Nat × c9)} {q:Option Addr} {r:Int × Nat × List c7} (hf:r.1≠0) {H:Hp} {M1:Own} {w1:World} (hk:Kept W.hp M W H M1 w1)
  (h2:cp (bB bq 50 200 (kz os O q r.1) zh)) (t2:aR bq 50 200 (kz os O q r.1) zh=aP bq 50 [.v (.int .i64 r.1),.v (.string du),.v (.string bP)] .normal)
  (h3:∀ a,cp (bJ bq 50 200 (kz os O q r.1) zh (.v (kB a)))) (h4:∀ a,cp (bB bq 48 200 (lQ os O q r.1 a) bS)) (t4:∀ a,aR bq 48 200 (lQ os O q r.1 a) bS=aP bq 48 [.v (kB a),.v (.string bL),.v (.string bP)] .normal)
  (h5:∀ a b,cp (bJ bq 48 200 (lQ os O q r.1 a) bS (.v (kB b)))) (h6:∀ a b,cp (au bq 12 200 (Cn os O q r.1 a b) bS (.tuple #[.pointer none,kB b]))):
  ao bq M1 w1 cs0 12 (GZ W r) ν (kz os O q r.1):=by
 have K:=zj hM hX
 refine oA (K.cy hk.base) hk h2 t2 fun ν' w a hle hsub hgr ha=>?_
 obtain ⟨y1,as1,rfl,q1,ha⟩:=ha.cons_inv
 obtain ⟨y2,as2,rfl,q2,ha⟩:=ha.cons_inv
 obtain ⟨y3,as3,rfl,q3,ha⟩:=ha.cons_inv
 obtain rfl:=ha.aq
 obtain rfl:=VR.ab.1 q1
 obtain rfl:=VR.ab.1 q2
 obtain rfl:=VR.ab.1 q3
 refine (CC (W:=w) hf).mono fun e w' ⟨hB,a,u,ha1,hu1,he,ha2,hu2⟩=>⟨hB,_,he,fun M2 hK2=>⟨h3 a,?_⟩⟩
 show ao bq M2 w' cs0 _ _ _ (lQ os O q r.1 a)
 refine oA (K.cy hK2.base) hK2 (h4 a) (t4 a) fun ν2 w2 aa hle2 hsub2 hgr2 ha=>?_
 obtain ⟨y1,as1,rfl,q1,ha⟩:=ha.cons_inv
 obtain ⟨y2,as2,rfl,q2,ha⟩:=ha.cons_inv
 obtain ⟨y3,as3,rfl,q3,ha⟩:=ha.cons_inv
 obtain rfl:=ha.aq
 obtain rfl:=VR.ab.1 q1
 obtain rfl:=VR.ab.1 q2
 obtain rfl:=VR.ab.1 q3
 have s2:W.hp.Sub w2.hp:=(hk.sub0.trans (Hp.cT hsub)).trans hsub2
 have e2:Hb w2 a r.1:=⟨u,hsub2 _ _ (eP ha1 ha2),hsub2 _ _ (eP hu1 hu2)⟩
 refine (xK (W:=w2) (hT.cr (a8 (Hp.Sub.refl _) s2)) hf e2).mono fun e w3 ⟨hB3,b,v,hb1,hv1,II,hb2,hv2⟩=>⟨hB3,_,II,fun M4 hK4=>⟨h5 a b,?_⟩⟩
 show ao bq M4 w3 cs0 _ _ _ (Cn os O q r.1 a b)
 refine tT (K.cy hK4.base) (h6 a b) fun ν' M5 w5 s' w'' _ hB5 hr5=>?_
 have s5:=hK4.now hB5 hr5
 have g1:=Hp.cT (w:=w2) (w':=w3) hsub2
 have z1:=size_le (hk.sub0.trans hsub)
 have z2:=size_le s2
 exact ⟨aG hM (hK4.base.trans hB5) hr5,.inl ⟨hf,b,rfl,v,a,u,⟨Nat.le_trans z2 hb1,Nat.le_trans z2 hv1,Nat.le_trans z1 ha1,Nat.le_trans z1 hu1⟩,s5 _ _ (eP hb1 hb2),s5 _ _ (eP hv1 hv2),s5 _ _ (g1 _ _ (eP ha1 ha2)),s5 _ _ (g1 _ _ (eP hu1 hu2))⟩⟩
end
end ez
end paths
end Go.Proofs.YtcbokmadfcedaaaGreatDoor
set_option linter.unusedSimpArgs false
set_option linter.unusedVariables false
set_option maxRecDepth 100000
namespace Go.Proofs.YtcbokmadfcedaaaGreatDoor
open Go Go.Rx Go.RowKit Go.Proofs
namespace paths
namespace ez
open crc (crcN bC bC_len bC_closed b_at cells_obj bC_flat)
def Looks (w:World) (b:Nat) (ys:List Value):Prop:=∃ c T fz,w.heap[b]?=some (.cells c T fz)∧∀ (k:Nat) (y:Value),ys[k]?=some y→c[k]?=some y
def LN (P:gF) (d nm:Nat):List Value:=[.pointer (some ⟨d,0,none⟩),.map (some nm),P.vs,P.vg,.int .i64 (-1)]
def Me (P:gF) (fm:Nat):List Value:=[.map (some fm),.int .i64 P.lst,.int .i64 P.room,.int .i64 (-1)]
def HU (P:gF) (dir:Bool) (f:Int):Obj:=.map #[{ key:=.string bP,val:=.agg #[.bool dir,.int .i64 f],born:=P.bn }] P.cl
def H5 (P:gF) (x:Value):Obj:=.map #[{ key:=.int .i64 1,val:=.agg #[x,.int .i64 P.sure],born:=P.bn2 }] P.cl2
structure np (w:World) (p d nm:Nat) (P:gF) (dir:Bool) (f:Int):Prop where
 fs:Looks w p (LN P d nm)
 dk:∃ c T fz z,w.heap[d]?=some (.cells c T fz)∧c[1]?=some (.int .i64 z)
 nm:w.heap[nm]?=some (HU P dir f)
structure tw (w:World) (d fm:Nat) (P:gF) (x:Value):Prop where
 dk:Looks w d (Me P fm)
 fl:w.heap[fm]?=some (H5 P x)
section
variable {w:World} {p d nm fm:Nat} {P:gF} {ν:aA}
theorem CP {dir:Bool} {f:Int} (h:np w p d nm P dir f) {j:Nat} (h1:ν 1=some (d,0)) (h2:ν 2=some (nm,0)):∃ r,w.heap[p]?=some r∧OR ν j (Js P.vs P.vg) r:=by
 obtain ⟨c,T,fz,hh,hc⟩:=h.fs
 exact ⟨_,hh,_,c,_,fz,rfl,aj.cons (VR.aw.2 ⟨(d,0),h1,rfl⟩) (aj.cons (VR.bM.2 ⟨(nm,0),h2,rfl⟩) (aj.lits ν [P.vs,P.vg,.int .i64 (-1)])),hc⟩
theorem FM {x:Value} (h:tw w d fm P x) {j:Nat} (h3:ν 3=some (fm,0)):∃ r,w.heap[d]?=some r∧OR ν j (Ju P.lst P.room) r:=by
 obtain ⟨c,T,fz,hh,hc⟩:=h.dk
 exact ⟨_,hh,_,c,_,fz,rfl,aj.cons (VR.bM.2 ⟨(fm,0),h3,rfl⟩) (aj.lits ν [.int .i64 P.lst,.int .i64 P.room,.int .i64 (-1)]),hc⟩
theorem Cw {dir:Bool} {f:Int} (h:np w p d nm P dir f) {j:Nat}:∃ r,w.heap[nm]?=some r∧OR ν j (Ji dir f P.bn P.cl) r:=
 ⟨_,h.nm,[_],rfl,_,[],rfl,VR.ab.2 rfl,VR.ab.2 rfl,rfl,rfl⟩
theorem FO {x:Value} {sx:SV} (h:tw w d fm P x) (hx:VR ν sx x) {j:Nat}:∃ r,w.heap[fm]?=some r∧OR ν j (La sx P.sure P.bn2 P.cl2) r:=
 ⟨_,h.fl,[_],rfl,_,[],rfl,VR.ab.2 rfl,VR.aW.2 ⟨[x,.int .i64 P.sure],rfl,aj.cons hx (aj.cons (VR.ab.2 rfl) aj.nil)⟩,rfl,rfl⟩
theorem Cx {dir:Bool} {f:Int} (h:np w p d nm P dir f):p≠d:=by
 obtain ⟨c,T,fz,h1,hc⟩:=h.fs
 obtain ⟨c',T',fz',z,h2,h3⟩:=h.dk
 intro hh;subst hh;rw [h1] at h2
 cases h2
 have h4:=hc 1 _ rfl
 rw [h3] at h4;cases h4
theorem Cr {dir:Bool} {f:Int} (h:np w p d nm P dir f):p≠nm:=by
 obtain ⟨c,T,fz,h1,_⟩:=h.fs
 have h2:=h.nm
 intro hh;subst hh;rw [h1] at h2;simp [HU] at h2
theorem Bz {dir:Bool} {f:Int} (h:np w p d nm P dir f):d≠nm:=by
 obtain ⟨c,T,fz,z,h1,_⟩:=h.dk
 have h2:=h.nm
 intro hh;subst hh;rw [h1] at h2;simp [HU] at h2
theorem FW {dir:Bool} {f:Int} {x:Value} (h:np w p d nm P dir f) (k:tw w d fm P x):p≠fm:=by
 obtain ⟨c,T,fz,h1,_⟩:=h.fs
 have h2:=k.fl
 intro hh;subst hh;rw [h1] at h2;simp [H5] at h2
theorem Ga {dir:Bool} {f:Int} {x:Value} (h:np w p d nm P dir f) (k:tw w d fm P x):d≠fm:=by
 obtain ⟨c,T,fz,z,h1,_⟩:=h.dk
 have h2:=k.fl
 intro hh;subst hh;rw [h1] at h2;simp [H5] at h2
theorem FD {dir:Bool} {f:Int} {x:Value} (h:np w p d nm P dir f) (k:tw w d fm P x):nm≠fm:=by
 have h1:=h.nm
 have h2:=k.fl
 intro hh;subst hh;rw [h1] at h2;simp [H5,HU] at h2
theorem HY {dir:Bool} {f:Int} {x:Value} {b:Nat} {cs:Array Value} {T:TypeId} {fz:Nat × Nat} {z:Int} (h:np w p d nm P dir f) (k:tw w d fm P x) (hb:w.heap[b]?=some (.cells cs T fz)) (hz:cs[0]?=some (.int .u8 z)):p≠b∧d≠b∧nm≠b:=by
 obtain ⟨c,T1,fz,h1,hc⟩:=h.fs
 obtain ⟨c',T2,fz',h2,hc'⟩:=k.dk
 have h3:=h.nm
 refine ⟨fun hh=>?_,fun hh=>?_,fun hh=>?_⟩
 ·subst hh;rw [h1] at hb;cases hb
  have h4:=hc 0 _ rfl
  rw [hz] at h4;cases h4
 ·subst hh;rw [h2] at hb;cases hb
  have h4:=hc' 0 _ rfl
  rw [hz] at h4;cases h4
 ·subst hh;rw [h3] at hb;simp [HU] at hb
end
theorem sS {zs:List Int} (hz:∀ z∈zs,0≤z∧z<256):(∀ z∈(bA zs).2,0≤z∧z<256)∧(bA zs).2.length≤zs.length:=by
 unfold bA
 split
 ·exact ⟨by simp,by simp⟩
 ·split
  ·exact ⟨fun z h=>hz z (List.mem_of_mem_take h),by simp⟩
  ·exact ⟨by simp,by simp⟩
section
variable {W:World} {p d nm fm:Nat} {P:gF}
theorem fV {l:List (Nat × Nat)} {os:List SO} (ho:∀ (j:Nat) (o':SO) (b' c':Nat),os[j]?=some o'→l[j]?=some (b',c')→∃ r,W.heap[b']?=some r∧OR (ax l) j o' r):Kept W.hp (az l (os.map fun o=>(o,false))) W W.hp (az l (os.map fun o=>(o,false))) W:=
 Kept.start (H0:=W.hp) (M:=az l (os.map fun o=>(o,false))) (w:=W) (Hp.Sub.refl _) (fun z o _=>aO) (ek (by
  intro j o' m b' c' q1 q2
  rw [List.getElem?_map] at q1
  obtain ⟨o2,q3,q4⟩:=Option.map_eq_some_iff.1 q1
  cases q4
  exact ho j o' b' c' q3 q2)) (fun _ h=>h)
theorem B2 (hX:eh W) (hT:fY W) (h:np W p d nm P true 0):Calls Tryz.prog 12 #[.pointer (some ⟨p,0,none⟩)] W (GZ W (22,0,[])):=by
 have ho:∀ (j:Nat) (o':SO) (b' c':Nat),(vF P)[j]?=some o'→[(p,0),(d,0),(nm,0)][j]?=some (b',c')→∃ r,W.heap[b']?=some r∧OR (ax [(p,0),(d,0),(nm,0)]) j o' r:=by
  intro j o' b' c' q1 q2
  match j with
  | 0=>cases q1;cases q2;exact CP h rfl rfl
  | 1=>
   cases q1;cases q2
   obtain ⟨c,T,fz,z,hh,_⟩:=h.dk
   exact ⟨_,hh,[],c,_,fz,rfl,aj.nil,fun k y hk=>by simp at hk⟩
  | 2=>cases q1;cases q2;exact Cw h
  | j+3=>simp [vF] at q1
 have hM:∀ z,¬ (az [(p,0),(d,0),(nm,0)] ((vF P).map fun o=>(o,false))) z:=fun z=>aO
 refine aY (E:=bq) rfl (d:=6) (l:=[(p,0),(d,0),(nm,0)]) (os:=vF P) rfl (by simp [vF]) (by simp [Cx h,Cr h,Bz h]) ho rfl (args:=[.ptr 0 0]) (a:=[.pointer (some ⟨p,0,none⟩)]) (S0:=gQ (vF P)) (by kernel_rfl) (aj.cons (VR.aw.2 ⟨(p,0),rfl,rfl⟩) aj.nil) fun cs0=>?_
 have K:=zj hM hX
 refine oA K (fV ho) (n:=2000) (g:=49) (o:=bS) (ah (OW P) (by simp [af])) (Om P) fun ν' w aa hle hsub hgr ha=>?_
 obtain ⟨y1,as1,rfl,q1,ha⟩:=ha.cons_inv
 obtain rfl:=ha.aq
 obtain ⟨z,rfl,q2⟩:=VR.aW.1 q1
 obtain rfl:=bT q2 (aj.lits ν' [.int .i64 2,.slice none 0 0])
 refine (AM (hX.cr (a8 (Hp.Sub.refl _) hsub))).mono fun e w' hR=>?_
 obtain ⟨hB,⟨_,rfl⟩ | ⟨h0,_⟩⟩:=hR
 ·refine ⟨hB,_,rfl,fun M2 hK2=>⟨ah (LW P none 22) (by simp [af]),?_⟩⟩
  exact B4 hX hM hT (os:=vF P) (O:=bS) (q:=none) (r:=(22,0,[])) (by decide) hK2 (ah (OA P none 22) (by simp [af])) (KW P none 22) (fun a=>ah (NU P none 22 a) (by simp [af])) (fun a=>ah (Nw P none 22 a) True.intro) (fun a=>Lc P none 22 a) (fun a b=>ah (M8 P none 22 a b) True.intro) (fun a b=>ah (Mx P none 22 a b) (by simp [af]))
 ·cases h0
theorem BO (hm:MX W) (hX:eh W) (hT:fY W) (h:np W p d nm P false 1) (k:tw W d fm P (.slice none 0 0)):Calls Tryz.prog 12 #[.pointer (some ⟨p,0,none⟩)] W (GZ W (11,0,[])):=by
 have ho:∀ (j:Nat) (o':SO) (b' c':Nat),(wC P)[j]?=some o'→[(p,0),(d,0),(nm,0),(fm,0)][j]?=some (b',c')→∃ r,W.heap[b']?=some r∧OR (ax [(p,0),(d,0),(nm,0),(fm,0)]) j o' r:=by
  intro j o' b' c' q1 q2
  match j with
  | 0=>cases q1;cases q2;exact CP h rfl rfl
  | 1=>cases q1;cases q2;exact FM k rfl
  | 2=>cases q1;cases q2;exact Cw h
  | 3=>cases q1;cases q2;exact FO k (VR.ab.2 rfl)
  | j+4=>simp [wC] at q1
 have hM:∀ z,¬ (az [(p,0),(d,0),(nm,0),(fm,0)] ((wC P).map fun o=>(o,false))) z:=fun z=>aO
 refine aY (E:=bq) rfl (d:=6) (l:=[(p,0),(d,0),(nm,0),(fm,0)]) (os:=wC P) rfl (by simp [wC]) (by simp [Cx h,Cr h,Bz h,FW h k,Ga h k,FD h k]) ho rfl (args:=[.ptr 0 0]) (a:=[.pointer (some ⟨p,0,none⟩)]) (S0:=gQ (wC P)) (by kernel_rfl) (aj.cons (VR.aw.2 ⟨(p,0),rfl,rfl⟩) aj.nil) fun cs0=>?_
 have K:=zj hM hX
 refine oA K (fV ho) (n:=2000) (g:=49) (o:=bS) (ah (MI P) (by simp [af])) (O9 P) fun ν' w aa hle hsub hgr ha=>?_
 obtain ⟨y1,as1,rfl,q1,ha⟩:=ha.cons_inv
 obtain rfl:=ha.aq
 obtain ⟨z,rfl,q2⟩:=VR.aW.1 q1
 obtain rfl:=bT q2 (aj.lits ν' [.int .i64 1,.slice none 0 0])
 have hXw:=hX.cr (a8 (Hp.Sub.refl _) hsub)
 refine (vY (r:=(11,[])) (hm.cr (a8 (Hp.Sub.refl _) hsub)) hXw (by simp) (by simp) fun w2 hs2=>B5 (hXw.cr (a8 (Hp.Sub.refl _) hs2))).mono fun e w' hR=>?_
 simp only [show ¬ ((11:Int)=0) by decide,if_false] at hR
 obtain ⟨hB,⟨_,rfl⟩ | ⟨h0,_⟩⟩:=hR
 ·refine ⟨hB,_,rfl,fun M2 hK2=>⟨ah (ML P none 11) (by simp [af]),?_⟩⟩
  exact B4 hX hM hT (os:=wC P) (O:=bS) (q:=none) (r:=(11,0,[])) (by decide) hK2 (ah (Np P none 11) (by simp [af])) (Lf P none 11) (fun a=>ah (Mn P none 11 a) (by simp [af])) (fun a=>ah (Nq P none 11 a) True.intro) (fun a=>JX P none 11 a) (fun a b=>ah (Ot P none 11 a b) True.intro) (fun a b=>ah (OB P none 11 a b) (by simp [af]))
 ·cases h0
theorem AT (hm:MX W) (hX:eh W) (hT:fY W) {b o n c:Nat} {zs:List Int} (h:np W p d nm P false 1) (k:tw W d fm P (.slice (some ⟨b,o,none⟩) n c)) (hIn:BytesIn W b o zs) (hb:∃ cs fz,W.heap[b]?=some (.cells cs 5 fz)) (hl:zs.length=n) (hf:n≤1000000) (hc:n≤c) (hz:∀ z∈zs,0≤z∧z<256) (h0:o=0∧0<n):
  Calls Tryz.prog 12 #[.pointer (some ⟨p,0,none⟩)] W (GZ W (dY zs)):=by
 have hIn0:=hIn
 obtain ⟨cs,e,fz,hh,hoff,hcc⟩:=hIn
 have hbx:fm≠b:=by
  have h2:=k.fl
  intro q;subst q;rw [h2] at hh;simp [H5] at hh
 obtain ⟨cs2,fz2,hb2⟩:=hb
 have hpx:p≠b∧d≠b∧nm≠b:=by
  obtain ⟨z,zs',hzs⟩:∃ z zs',zs=z::zs':=by
   cases zs with
   | nil=>simp at hl;omega
   | cons z zs'=>exact ⟨z,zs',rfl⟩
  refine HY h k hh (z:=z) ?_
  have:=hcc 0 (.int .u8 z) (by rw [hzs];rfl)
  rw [h0.1] at this
  exact this
 have ho:∀ (j:Nat) (o':SO) (b' c':Nat),(sY P o n c (ak bC o zs))[j]?=some o'→[(p,0),(d,0),(nm,0),(fm,0),(b,0)][j]?=some (b',c')→∃ r,W.heap[b']?=some r∧OR (ax [(p,0),(d,0),(nm,0),(fm,0),(b,0)]) j o' r:=by
  intro j o' b' c' q1 q2
  match j with
  | 0=>cases q1;cases q2;exact CP h rfl rfl
  | 1=>cases q1;cases q2;exact FM k rfl
  | 2=>cases q1;cases q2;exact Cw h
  | 3=>cases q1;cases q2;exact FO k (VR.ay.2 ⟨(b,0),rfl,hc,rfl⟩)
  | 4=>cases q1;cases q2;exact ⟨_,hh,bW (h:=fun z=>[Value.int .u8 z]) (fun ν x=>aj.lits ν [Value.int .u8 x]) hoff (by rw [bC_flat];exact hcc)⟩
  | j+5=>simp [sY] at q1
 have hM:∀ z,¬ (az [(p,0),(d,0),(nm,0),(fm,0),(b,0)] ((sY P o n c (ak bC o zs)).map fun o=>(o,false))) z:=fun z=>aO
 refine aY (E:=bq) rfl (d:=6) (l:=[(p,0),(d,0),(nm,0),(fm,0),(b,0)]) (os:=sY P o n c (ak bC o zs)) rfl (by simp [sY]) (by simp [Cx h,Cr h,Bz h,FW h k,Ga h k,FD h k,hpx.1,hpx.2.1,hpx.2.2,hbx]) ho rfl (args:=[.ptr 0 0]) (a:=[.pointer (some ⟨p,0,none⟩)]) (S0:=gQ (sY P o n c (ak bC o zs))) (by kernel_rfl) (aj.cons (VR.aw.2 ⟨(p,0),rfl,rfl⟩) aj.nil) fun cs0=>?_
 have K:=zj hM hX
 obtain ⟨arr,harr⟩:∃ arr:Array Value,arr=(zs.map (Value.int .u8)).toArray:=⟨_,rfl⟩
 have hbx:di (ak bC o zs) o n zs:=by have:=eK (o:=o) (k:=n) (zs:=zs) (by omega) (by omega) hz;rwa [List.take_of_length_le (by omega)] at this
 have hC:gE (ak bC o zs) o n arr:=⟨by simp [ak],zs,hbx,harr⟩
 refine GY K (fV ho) (n:=2000) (g:=49) (o:=oF P o n c arr) (ah (N7 P o n c (ak bC o zs) arr) ?_) (MJ P o n c (ak bC o zs) arr) fun ν' w aa hle hsub hgr ha hlook=>?_
 ·simp only [af]
  repeat' apply And.intro
  all_goals first | exact True.intro | with_reducible assumption | with_reducible rfl | rfl
 obtain ⟨y1,as1,rfl,q1,ha⟩:=ha.cons_inv
 obtain rfl:=ha.aq
 obtain ⟨z,rfl,q2⟩:=VR.aW.1 q1
 obtain ⟨x1,z1,rfl,q3,q2⟩:=q2.cons_inv
 obtain ⟨x2,z2,rfl,q4,q2⟩:=q2.cons_inv
 obtain rfl:=q2.aq
 obtain rfl:=VR.ab.1 q3
 obtain ⟨g,hg,hgn,rfl⟩:=VR.ay.1 q4
 have hXw:=hX.cr (a8 (Hp.Sub.refl _) hsub)
 obtain ⟨g',ob,hg',hob,hor⟩:=hlook 17 _ _ (Gs P o n c (ak bC o zs) arr)
 rw [hg] at hg';cases hg'
 have hB2:di (arr.toList.map SV.v) 0 n zs:=⟨hl,by omega,hz,fun i z h=>by rw [Nat.zero_add,harr,List.getElem?_map,List.getElem?_map,h];rfl⟩
 have hIn2:BytesIn w g.1 0 zs:=hB2.holds hob (sB hor) (fun _=>trivial) fun _ c e fz _=>Nat.zero_le _
 have hgn:n≤g.2 - 0:=hgn
 obtain ⟨eX,oQ⟩:=sS hz
 refine (vY (r:=bA zs) (hm.cr (a8 (Hp.Sub.refl _) hsub)) hXw eX (by omega) fun w2 hs2=>xQ (hXw.cr (a8 (Hp.Sub.refl _) hs2)) (fS hIn2 hs2) hl (by omega) hgn hz).mono fun e w' hR=>?_
 have hR:Dd w (dY zs).2.1 ((dY zs).1,(dY zs).2.2) e w':=hR
 generalize dY zs=r at hR
 have hR0:=hR
 obtain ⟨hB,⟨h1,rfl⟩ | ⟨h1,g2,hg2,rfl,_⟩⟩:=hR
 ·have hne:(!r.1==(0:Int))=true:=by simpa using h1
  refine ⟨hB,_,rfl,fun M2 hK2=>⟨ah (LQ P o n c (ak bC o zs) arr none r.1) ?_,?_⟩⟩
  ·simp only [af]
   repeat' apply And.intro
   all_goals first | exact True.intro | with_reducible assumption | with_reducible rfl | rfl
  ·exact B4 hX hM hT (os:=sY P o n c (ak bC o zs)) (O:=oF P o n c arr) (q:=none) (r:=r) h1 hK2 (ah (Nn P o n c (ak bC o zs) arr none r.1) (by simp only [af,hne,and_self])) (KT P o n c (ak bC o zs) arr none r.1) (fun a=>ah (LX P o n c (ak bC o zs) arr none r.1 a) (by simp only [af,hne,and_self])) (fun a=>ah (O7 P o n c (ak bC o zs) arr none r.1 a) True.intro) (fun a=>Ks P o n c (ak bC o zs) arr none r.1 a) (fun a b=>ah (MU P o n c (ak bC o zs) arr none r.1 a b) True.intro) (fun a b=>ah (Ni P o n c (ak bC o zs) arr none r.1 a b) (by simp [af]))
 ·have h1:r.1=0:=h1
  refine ⟨hB,_,rfl,fun M2 hK2=>⟨ah (LQ P o n c (ak bC o zs) arr (some ⟨g2,0,none⟩) 0) ?_,?_⟩⟩
  ·simp only [af]
   repeat' apply And.intro
   all_goals first | exact True.intro | with_reducible assumption | with_reducible rfl | rfl
  ·show ao bq M2 w' cs0 _ _ _ (kz (sY P o n c (ak bC o zs)) (oF P o n c arr) (some ⟨g2,0,none⟩) 0)
   refine tT (K.cy hK2.base) (ah (Mf P o n c (ak bC o zs) arr (some ⟨g2,0,none⟩) 0) (by simp [af])) fun ν' M5 w5 s' w'' _ hB5 hr5=>?_
   have hs5:=hK2.now hB5 hr5
   have hb5:=aG hM (hK2.base.trans hB5) hr5
   exact ⟨hb5,.inr ⟨h1,_,rfl,wT hR0 hb5 (size_le hsub) fun k o hk ho=>hs5 _ _ (eP hk ho)⟩⟩
end
end ez
end paths
end Go.Proofs.YtcbokmadfcedaaaGreatDoor
set_option linter.unusedSimpArgs false
set_option linter.unusedVariables false
set_option maxRecDepth 100000
namespace Go.Proofs.YtcbokmadfcedaaaGreatDoor
open Go Go.Rx Go.RowKit Go.Proofs
namespace paths
namespace ez
structure wL where
 last:Int
 room:Int
 cn:Nat
 cf:Nat
 sure:Int
 vr:Value
 vs:Value
 ck:Int
def Gk (dir:Bool) (f:Int):SO:=.look [.v (.string bP),.v (.bool dir),.v (.int .i64 f)]
def Jg (a:Option Addr) (n c:Nat) (sure:Int):SO:=.look [.v (.int .i64 1),.v (.slice a n c),.v (.int .i64 sure)]
def Dq (p:wL) (l:SV):SV:=.agg [l,.v (.int .i64 p.last),.v (.int .i64 p.room),.v (.int .i64 (-1)),.sl 0 0 1 (some p.cn),.v p.vr,.v (.int .i64 (-1)),.v p.vs,.v (.int .u64 p.ck)]
noncomputable def Dl (p:wL):SM:=(aS bq 13 [Dq p (.v (.slice none 0 0))] (bc 6 1 0 [some (Gk true 0,false)])).getD dx
noncomputable def wo (p:wL) (a:Option Addr) (n c:Nat):SM:=(aS bq 13 [Dq p (.sl 1 0 1 (some p.cf))] (bc 6 2 0 [some (Gk false 1,false),some (Jg a n c p.sure,false)])).getD dx
noncomputable def xp (p:wL) (a:Option Addr) (n c:Nat) (v:Value):SM:=cK bq 52 2000 (wo p a n c) bS (.v v)
noncomputable def I5 (p:wL) (a:Option Addr) (n c:Nat) (v u:Value):SM:=cK bq 53 200 (xp p a n c v) bS (.v u)
theorem NP (p:wL):au bq 13 2000 (Dl p) bS (.tuple #[.agg #[.int .u64 0,.slice none 0 0],.int .i64 22])=[Value.tuple { toList:=[Value.agg { toList:=[Value.int IntKind.u64 0,Value.slice none 0 0]:Array Value },vZ 22]:Array Value }=Value.tuple { toList:=[Value.agg { toList:=[Value.int IntKind.u64 0,Value.slice none 0 0]:Array Value },vZ 22]:Array Value },true=true,true=true,true=true,true=true,true=true,true=true,true=true,true=true,true=true,true=true,Nat.le 5 9223372036854775807,true=true,true=true,true=true,true=true,true=true,Nat.le 4 9223372036854775807,true=true,true=true,true=true,true=true,true=true,Nat.le 3 9223372036854775807,true=true,true=true,true=true,true=true,true=true,Nat.le 2 9223372036854775807,true=true,true=true,true=true,true=true,true=true,Nat.le 1 9223372036854775807,true=true,true=true,true=true,true=true]:=by kernel_rfl
theorem JV (p:wL) (a:Option Addr) (n c:Nat):bB bq 52 2000 (wo p a n c) bS=[true=true,0=0∧1=1∧some p.4=some p.4,true=true,true=true,true=true,true=true,true=true,true=true,true=true,true=true,true=true,true=true,true=true,true=true,Nat.le 5 9223372036854775807,true=true,true=true,true=true,true=true,true=true,Nat.le 4 9223372036854775807,true=true,true=true,true=true,true=true,true=true,Nat.le 3 9223372036854775807,true=true,true=true,true=true,true=true,true=true,Nat.le 2 9223372036854775807,true=true,true=true,true=true,true=true,true=true,Nat.le 1 9223372036854775807,true=true,true=true,true=true,true=true]:=by kernel_rfl
theorem Ly (p:wL) (a:Option Addr) (n c:Nat):aR bq 52 2000 (wo p a n c) bS=aP bq 52 [.v (.slice a n c)] .normal:=by kernel_rfl
theorem Jq (p:wL) (a:Option Addr) (n c:Nat) (a2:Option Addr) (n2 c2:Nat) (f:Int):bJ bq 52 2000 (wo p a n c) bS (.v (.tuple #[.slice a2 n2 c2,.int .i64 f]))=[true=true,0=0∧1=1∧some p.4=some p.4,true=true,true=true,true=true,true=true,true=true,true=true,true=true,true=true,true=true,true=true,true=true,true=true,Nat.le 5 9223372036854775807,true=true,true=true,true=true,true=true,true=true,Nat.le 4 9223372036854775807,true=true,true=true,true=true,true=true,true=true,Nat.le 3 9223372036854775807,true=true,true=true,true=true,true=true,true=true,Nat.le 2 9223372036854775807,true=true,true=true,true=true,true=true,true=true,Nat.le 1 9223372036854775807,true=true,true=true,true=true,true=true]:=by kernel_rfl
theorem J8 (p:wL) (a:Option Addr) (n c:Nat) (a2:Option Addr) (n2 c2:Nat) (f:Int):au bq 13 200 (xp p a n c (.tuple #[.slice a2 n2 c2,.int .i64 f])) zh (.tuple #[.agg #[.int .u64 0,.slice none 0 0],.int .i64 f])=[Value.tuple { toList:=[Value.agg { toList:=[Value.int IntKind.u64 0,Value.slice none 0 0]:Array Value },vZ f]:Array Value }=Value.tuple { toList:=[Value.agg { toList:=[Value.int IntKind.u64 0,Value.slice none 0 0]:Array Value },vZ f]:Array Value },(!f==0)=true]:=by kernel_rfl
theorem J6 (p:wL) (a:Option Addr) (n c:Nat) (a2:Option Addr) (n2 c2:Nat):bB bq 53 200 (xp p a n c (.tuple #[.slice a2 n2 c2,.int .i64 0])) bS=[]:=by kernel_rfl
theorem KP (p:wL) (a:Option Addr) (n c:Nat) (a2:Option Addr) (n2 c2:Nat):aR bq 53 200 (xp p a n c (.tuple #[.slice a2 n2 c2,.int .i64 0])) bS=aP bq 53 [.v (.slice a2 n2 c2)] .normal:=by kernel_rfl
theorem LF (p:wL) (a:Option Addr) (n c:Nat) (a2:Option Addr) (n2 c2:Nat) (s:Int) (a3:Option Addr) (n3 c3:Nat) (f:Int):bJ bq 53 200 (xp p a n c (.tuple #[.slice a2 n2 c2,.int .i64 0])) bS (.v (.tuple #[.agg #[.int .u64 s,.slice a3 n3 c3],.int .i64 f]))=[]:=by kernel_rfl
theorem Jt (p:wL) (a:Option Addr) (n c:Nat) (a2:Option Addr) (n2 c2:Nat) (s:Int) (a3:Option Addr) (n3 c3:Nat) (f:Int):au bq 13 200 (I5 p a n c (.tuple #[.slice a2 n2 c2,.int .i64 0]) (.tuple #[.agg #[.int .u64 s,.slice a3 n3 c3],.int .i64 f])) bS (.tuple #[.agg #[.int .u64 s,.slice a3 n3 c3],.int .i64 f])=[Value.tuple { toList:=[Value.agg { toList:=[Value.int IntKind.u64 s,Value.slice a3 n3 c3]:Array Value },vZ f]:Array Value }=Value.tuple { toList:=[Value.agg { toList:=[Value.int IntKind.u64 s,Value.slice a3 n3 c3]:Array Value },vZ f]:Array Value }]:=by kernel_rfl
end ez
end paths
end Go.Proofs.YtcbokmadfcedaaaGreatDoor
