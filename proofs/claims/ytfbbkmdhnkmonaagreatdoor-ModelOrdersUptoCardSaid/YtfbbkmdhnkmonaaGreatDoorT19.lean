/- Proved, each under the conditions that it names: slices.Clone of places; the closures of model.ordered; model.ordered: what its loops keep; package model: ordered, walked. -/
import Derived.Test.YtfbbkmdhnkmonaaGreatDoorT18
import Derived.Shelf.RegionOpenPlain
import Derived.Lib.Walk
set_option maxRecDepth 100000
set_option maxHeartbeats 32000000
namespace Go.Proofs.YtfbbkmdhnkmonaaGreatDoor
open Go.RowKit Go.Shelf
theorem clone_zero {P:Program} {ρ:Ren} (L:Go.Proofs.SlLaysE0.n41 P ρ) {k bytes:Nat} (hE:Elem P (ρ.t 22) (ρ.t 23) k bytes) (a:Addr) (c:Nat) (w:World):Calls P (ρ.f 41) #[.slice (some a) 0 c] w fun e w'=>e=.returned (.slice (some ⟨w.heap.size,0,none⟩) 0 0)/\w'=w.alloc (.cells #[] (ρ.t 23)):=by
 have z23:=hE.size
 have mixed:=L.mixed;have t4:=L.t4;have a4:=L.a4;have z4:=L.z4;have v4:=L.v4;have t22:=L.t22;have a22:=L.a22;have z22:=L.z22;have v22:=L.v22
 have q22:∀(w:World) (a:Option Addr) (n c n' c':Nat),(binOp .eql (ρ.t 22) (.slice a n c) (.slice none n' c')).run P w=.ok (.bool a.isNone) w:=fun w a n c n' c'=>Lib.run_eql_slice_nil w _ _ a n c n' c' L.t22
 have u22:∀w,Sem.run P (underlying (ρ.t 22)) w=.ok (TypeDesc.slice (ρ.t 23)) w:=run_underlying t22
 obtain ⟨_,_,FG⟩:=L.f41
 go_enter FG,SlBodyN.n41_ntmps ρ
 go_wp2
 go_ret
 exact ⟨rfl,rfl⟩
theorem clone_cells {P:Program} {ρ:Ren} (L:Go.Proofs.SlLaysE0.n41 P ρ) {k bytes:Nat} (hE:Elem P (ρ.t 22) (ρ.t 23) k bytes) (a:Option Addr) (n c b off:Nat) (news:List Value) (w:World) (hl:news.length=n*k) (hn:n<=maxLen) (hbig:n*bytes<=140737488355328)
  (ha:0<n->a=some ⟨b,off,none⟩) (hc:∀j u,news[j]? = some u->w.cell? ⟨b,off+j,none⟩=some u) (h1:∀u∈news,u.oneCell'=true) :
  Calls P (ρ.f 41) #[.slice a n c] w fun e w'=>∃va vc,e=.returned (.slice va n vc)/\Own w' w.heap.size (ρ.t 23) k va vc n news/\Below w.heap.size w w':=by
 by_cases h0:0<n
 ·have:=ha h0
  subst this
  obtain ⟨z,hz,hzs⟩:=hE.info
  obtain ⟨i,hi,hz0,hz1,hz2⟩:=info_parts hz
  refine (AnyE.slices_Clone L i z k bytes hi hz0 hz1 hz2 hzs hE.pos hE.size b off n c news w hl hn hbig hc h1).mono ?_
  rintro e w' ⟨v',rfl,hr,-,hbw⟩
  rcases hr.2 with ⟨hv,h1⟩ | ⟨g,cap,_,hv,_⟩
  ·omega
  exact ⟨_,_,by rw [hv],⟨by rw [hv] at hr;exact hr⟩,hbw⟩
 obtain rfl:n=0:=by omega
 have hn0:news=[]:=List.eq_nil_of_length_eq_zero (by omega)
 subst hn0
 cases a with
 | none =>
  refine (AnyE.slices_Clone_nil L 0 c w).mono ?_
  rintro e w' ⟨rfl,rfl⟩
  exact ⟨none,0,rfl,Own.nil _ _ _ _,Below.refl _ _⟩
 | some a =>
  refine (clone_zero L hE a c w).mono ?_
  rintro e w' ⟨rfl,rfl⟩
  exact ⟨_,_,rfl,⟨World.ownsRow_made w #[] 0 (Nat.le_refl _) (Nat.zero_le _) (by simp)⟩,(Below.refl _ _).alloc (Nat.le_refl _) _⟩
theorem clonePls {o:Bool} {P:Nat->Prop} (l:List Pl) (a:Option Addr) (c:Nat) (w:World) (hn:l.length<=1048576) (h:Mem o P w (flatL 3 plC l) (.slice a l.length c)) :
  Calls Tryz.prog 51 #[.slice a l.length c] w fun e w'=>∃va vc,e=.returned (.slice va l.length vc)/\Own w' w.heap.size 33 3 va vc l.length (l.flatMap plC)/\Below w.heap.size w w':=by
 obtain ⟨a',c',b,off,he,-,hC⟩:=flat_open h
 injection he with e1 e2 e3
 subst e1 e3
 have hw:∀v∈l.map plC,v.length=3:=by intro v hv;obtain ⟨x,-,rfl⟩:=List.mem_map.1 hv;rfl
 have hfl:(l.flatMap plC).length=l.length*3:=by rw [List.flatMap_def,flat_len (k:=3) (l.map plC) hw,List.length_map]
 refine clone_cells Tryz.clonePl elemPl a l.length c b off (l.flatMap plC) w hfl (by unfold maxLen;omega) (by omega) (fun h0=>(hC.at0 h0).1) (fun j u hj=>?_) (fun u hu=>?_)
 ·have hjl:=lt_of_some hj
  rw [hfl] at hjl
  have hq:j / 3<l.length:=by omega
  have hr:j % 3<3:=Nat.mod_lt _ (by omega)
  have hjk:j / 3*3+j % 3=j:=by omega
  have:=flat_at (k:=3) (l.map plC) hw (j / 3) (j % 3) (by simpa using hq) hr
  rw [hjk,<-List.flatMap_def,hj,List.getElem_map] at this
  have hc:=hC.cell (j / 3) hq (j % 3) u this.symm
  rw [Nat.add_assoc,hjk] at hc
  exact hc
 obtain ⟨x,-,hx⟩:=List.mem_flatMap.1 hu
 simp only [plC,List.mem_cons,List.not_mem_nil,or_false] at hx
 rcases hx with rfl | rfl | rfl<;>rfl
theorem mem_empty (o:Bool) (P:Nat->Prop) (w:World):Mem o P w (flatL 3 plC []) (.slice none 0 0) :=
 .list 3 [] [] none 0 0 0 rfl (Nat.le_refl _) (fun h=>absurd h (by simp)) (fun j v h=>absurd h (by simp)) (fun j e h=>absurd h (by simp)) (fun j v i u h=>absurd h (by simp)) (fun j v e i u d h=>absurd h (by simp))
theorem Mem.readP {o:Bool} {P:Nat->Prop} {w:World} {d:D} {v:Value} (h:Mem o P w d v):Mem false P w d v:=by
 induction h with
 | atom v=>exact .atom v
 | list k es vs a c b off hl hle ha hk1 hk2 hc hm ih =>
  exact .list k es vs a c b off hl hle ha hk1 hk2 (fun j v i u hj hi=>⟨(hc j v i u hj hi).1,fun h=>by cases h⟩) ih
theorem okPl_places {md:ModelD} (hf:md.Few) {p:Pl} (h:p∈placesL md):okPl p:=by
 have h1:=senAt_some.1 (mem_placesL.1 h)
 obtain ⟨h2,h3,h4⟩:=senL_range h1.2
 have h5:=hf.stages
 have h6:=hf.stones
 have h7:(senL md p.1 p.2.1).length<=128:=by
  have:=h1.2
  unfold senL at *
  split
  ·simp
  split
  ·rcases Nat.lt_or_ge p.2.1.toNat md.stages.length with hl | hl
   ·rw [List.getElem?_eq_getElem hl];exact (few_stage hf.many hl).1
   rw [List.getElem?_eq_none hl];simp
  split
  ·rcases Nat.lt_or_ge p.2.1.toNat md.stages.length with hl | hl
   ·rw [List.getElem?_eq_getElem hl];exact (few_stage hf.many hl).2
   rw [List.getElem?_eq_none hl];simp
  split
  ·rcases Nat.lt_or_ge p.2.1.toNat md.stones.length with hl | hl
   ·rw [List.getElem?_eq_getElem hl];exact (few_stone hf.many hl).1
   rw [List.getElem?_eq_none hl];simp
  split
  ·rcases Nat.lt_or_ge p.2.1.toNat md.stones.length with hl | hl
   ·rw [List.getElem?_eq_getElem hl];exact (few_stone hf.many hl).2
   rw [List.getElem?_eq_none hl];simp
  simp
 have h8:=h1.2
 obtain ⟨p1,p2,p3⟩:=p
 simp only at *
 exact ⟨by simp only;omega,by simp only;omega,by simp only;omega⟩
noncomputable def leanL (md:ModelD) (a:Pl):List Pl:=(placesL md).filter (leansB md a)
theorem leanL_len {md:ModelD} (hf:md.Few) (a:Pl):(leanL md a).length<=128:=by
 have h1:=List.length_filter_le (leansB md a) (placesL md)
 rw [length_placesL] at h1
 have:=hf.many
 unfold leanL
 omega
theorem freeB_row (md:ModelD) (out:List Pl) (a:Pl):freeB (leansB md) (placesL md) out a = !((leanL md a).any fun b=>!decide (b∈out)):=by
 rw [Bool.eq_iff_iff,freeB_iff,Bool.not_eq_true',Bool.eq_false_iff,Ne,List.any_eq_true]
 constructor
 ·rintro h ⟨b,hb,hn⟩
  obtain ⟨h1,h2⟩:=List.mem_filter.1 hb
  simp [h b h1 h2] at hn
 intro h b hb hl
 rcases Classical.em (b∈out) with h1 | h1
 ·exact h1
 exact absurd ⟨b,List.mem_filter.2 ⟨hb,hl⟩,by simp [h1]⟩ h
def OutAt (w:World) (T:Nat) (out:List Pl):Prop:=∃a c,w.cell? ⟨T,0,none⟩=some (.slice a out.length c)/\Mem false (From 0) w (flatL 3 plC out) (.slice a out.length c)
theorem OutAt.below {w w':World} {T:Nat} {out:List Pl} (h:OutAt w T out) (hb:Below w.heap.size w w'):OutAt w' T out:=by
 obtain ⟨a,c,h1,h2⟩:=h
 exact ⟨a,c,cellBelow2 hb h1,h2.grow hb⟩
theorem notinCl (out:List Pl) (T:Nat) (w:World) (hl:out.length<=1048576) (hO:OutAt w T out):PredBelow Tryz.prog 55 #[.pointer (some ⟨T,0,none⟩)] (fun x=>.agg (plC x).toArray) (fun b=>!decide (b∈out)) w:=fun W x hb=>by
 obtain ⟨x0,x1,x2⟩:=x
 show Calls Tryz.prog 55 #[.agg #[.int .i64 x0,.int .i64 x1,.int .i64 x2],.pointer (some ⟨T,0,none⟩)] W _
 obtain ⟨W1,hW1⟩:∃W1,W.alloc (.cells #[.int .i64 x0,.int .i64 x1,.int .i64 x2] 33)=W1:=⟨_,rfl⟩
 have hb1:Below W.heap.size W W1:=hW1▸(Below.refl _ _).alloc (Nat.le_refl _) _
 have hx:=(show Arr W1 W.heap.size 33 [.int .i64 x0,.int .i64 x1,.int .i64 x2] from hW1▸Arr.new W _ _)
 have hbw:=hb.trans (hb1.mono hb.size)
 obtain ⟨a,c,hc,hM⟩:=hO.below hbw
 have HC:=hid (containsPl out (x0,x1,x2) a c W1 hl hM)
 obtain ⟨q,hq⟩:∃q,decide ((x0,x1,x2)∈out)=q:=⟨_,rfl⟩
 rw [hq] at HC
 simp only [hq]
 have z0:=hx.cell (j:=0) (by simp)
 have z1:=hx.cell (j:=1) (by simp)
 have z2:=hx.cell (j:=2) (by simp)
 simp only [gE0,gE1] at z0 z1 z2
 have HW1:=hid hW1
 have HB1:=hid hbw
 clear hq hb hb1 hx hbw hM hO hW1
 go_enter Tryz.func55,Tryz.ntmps55
 go_upto_region 1 with fail
 rw [HW1.out]
 go_wp2_with fail
 refine HC.out.mono ?_
 rintro e w2 ⟨rfl,hb2⟩
 have HB2:=hid (HB1.out.trans (hb2.mono HB1.out.size))
 clear hb2 HC
 go_wp2_with fail
 go_ret
 exact ⟨rfl,HB2.out⟩
def RowsAll (md:ModelD) (w:World) (M:Nat) (ents:KM.Ents Pl):Prop:=∀p∈placesL md,∃a c,(KM.getM ents p).getD (.slice none 0 0)=.slice a (leanL md p).length c/\Mem false (fun b=>b≠M) w (flatL 3 plC (leanL md p)) (.slice a (leanL md p).length c)
theorem RowsAll.below {md:ModelD} {w w':World} {M:Nat} {ents:KM.Ents Pl} (h:RowsAll md w M ents) (hb:Below w.heap.size w w'):RowsAll md w' M ents:=fun p hp=>by
 obtain ⟨a,c,h1,h2⟩:=h p hp
 exact ⟨a,c,h1,h2.grow hb⟩
theorem freeCl (md:ModelD) (hf:md.Few) (out:List Pl) (To T M:Nat) (ents:KM.Ents Pl) (w:World) (hl:out.length<=1048576) (hO:OutAt w T out) (hc:w.cell? ⟨To,0,none⟩=some (.map (some M))) (hM:KM.MapIs plV okPl w M ents) (hR:RowsAll md w M ents) :
  PredBelow Tryz.prog 53 #[.pointer (some ⟨To,0,none⟩),.pointer (some ⟨T,0,none⟩)] (fun x:{q:Pl // q∈placesL md}=>.agg (plC x.1).toArray) (fun x=>freeB (leansB md) (placesL md) out x.1) w:=fun W x hb=>by
 obtain ⟨x,hx⟩:=x
 have hok:=okPl_places hf hx
 obtain ⟨ra,rc,hg,hRM⟩:=hR x hx
 have hrl:=leanL_len hf x
 have hfr:=freeB_row md out x
 obtain ⟨r,hr⟩:∃r,((leanL md x).any fun b=>!decide (b∈out))=r:=⟨_,rfl⟩
 rw [hr] at hfr
 simp only [hfr]
 obtain ⟨x0,x1,x2⟩:=x
 show Calls Tryz.prog 53 #[.agg #[.int .i64 x0,.int .i64 x1,.int .i64 x2],.pointer (some ⟨To,0,none⟩),.pointer (some ⟨T,0,none⟩)] W _
 obtain ⟨W1,hW1⟩:∃W1,W.alloc (.cells #[.int .i64 x0,.int .i64 x1,.int .i64 x2] 33)=W1:=⟨_,rfl⟩
 have hb1:Below W.heap.size W W1:=hW1▸(Below.refl _ _).alloc (Nat.le_refl _) _
 have hx1:=(show Arr W1 W.heap.size 33 [.int .i64 x0,.int .i64 x1,.int .i64 x2] from hW1▸Arr.new W _ _)
 have hbw:=hb.trans (hb1.mono hb.size)
 have hlk:=(hM.below hbw hM.lt).get Tryz.underlying97 plEnc (z:=.slice none 0 0) Tryz.zeroValue42 hok
 rw [hg] at hlk
 simp only [plV] at hlk
 have egN:∀args w,(callFunc 55 args).run Tryz.prog w=.ok (.enter 55 args) w:=enters_of Tryz.func55 (by kernel_rfl) rfl
 have HC:=hid (hasPlG (fun b=>!decide (b∈out)) 55 #[.pointer (some ⟨T,0,none⟩)] egN (leanL md (x0,x1,x2)) ra rc W1 (by omega) (hRM.grow hbw) (notinCl out T W1 hl (hO.below hbw)))
 rw [hr] at HC
 have hcT:=cellBelow2 hbw hc
 have z0:=hx1.cell (j:=0) (by simp)
 have z1:=hx1.cell (j:=1) (by simp)
 have z2:=hx1.cell (j:=2) (by simp)
 simp only [gE0,gE1] at z0 z1 z2
 have HW1:=hid hW1
 have HB1:=hid hbw
 clear hfr hr hb hb1 hx1 hbw hM hO hW1 hg hRM hrl hok hx hR hc egN
 go_enter Tryz.func53,Tryz.ntmps53
 go_upto_region 1 with fail
 rw [HW1.out]
 go_wp2_with fail
 refine HC.out.mono ?_
 rintro e w2 ⟨rfl,hb2⟩
 have HB2:=hid (HB1.out.trans (hb2.mono HB1.out.size))
 clear hb2 HC
 go_wp2_with fail
 go_ret
 exact ⟨rfl,HB2.out⟩
end Go.Proofs.YtfbbkmdhnkmonaaGreatDoor
namespace Go.Proofs.YtfbbkmdhnkmonaaGreatDoor
open Go.RowKit
noncomputable def leanTo (md:ModelD) (a:Pl) (j:Nat):List Pl:=((placesL md).take j).filter (leansB md a)
theorem leanTo_zero (md:ModelD) (a:Pl):leanTo md a 0=[]:=by simp [leanTo]
theorem leanTo_all (md:ModelD) (a:Pl):leanTo md a (placesL md).length=leanL md a:=by simp [leanTo,leanL]
theorem leanTo_succ (md:ModelD) (a:Pl) {j:Nat} (h:j<(placesL md).length):leanTo md a (j+1)=if leansB md a (placesL md)[j]=true then leanTo md a j++[(placesL md)[j]] else leanTo md a j:=by
 rw [leanTo,List.take_succ_eq_append_getElem h,List.filter_append,<-leanTo]
 by_cases hl:leansB md a (placesL md)[j]=true
 ·simp [hl]
 simp [hl]
theorem leanTo_len (md:ModelD) (a:Pl) (j:Nat):(leanTo md a j).length<=(placesL md).length:=by
 have h1:=List.length_filter_le (leansB md a) ((placesL md).take j)
 have h2:=List.length_take_le j (placesL md)
 unfold leanTo
 rw [List.length_take] at *
 omega
def RowIn (md:ModelD) (a:Pl) (base:Nat) (ents0:KM.Ents Pl) (j:Nat) (wr:World) (ents:KM.Ents Pl):Prop :=
 (∃va vc,(KM.getM ents a).getD (.slice none 0 0)=.slice va (leanTo md a j).length vc/\Own wr base 33 3 va vc (leanTo md a j).length ((leanTo md a j).flatMap plC))/\∀p,p≠a->KM.getM ents p=KM.getM ents0 p
def RowsTo (md:ModelD) (M n:Nat) (w:World) (ents:KM.Ents Pl):Prop :=
 (∀p,p∉(placesL md).take n->KM.getM ents p=none)/\∀p∈(placesL md).take n,∃a c,(KM.getM ents p).getD (.slice none 0 0)=.slice a (leanL md p).length c/\Mem false (fun b=>b≠M) w (flatL 3 plC (leanL md p)) (.slice a (leanL md p).length c)
theorem RowsTo.start (md:ModelD) (M:Nat) (w:World):RowsTo md M 0 w []:=⟨fun _ _=>rfl,fun p hp=>absurd hp (by simp)⟩
theorem RowsTo.all {md:ModelD} {M:Nat} {w:World} {ents:KM.Ents Pl} (h:RowsTo md M (placesL md).length w ents):RowsAll md w M ents:=fun p hp=>h.2 p (by rw [List.take_length];exact hp)
theorem RowsTo.grown {md:ModelD} {M n:Nat} {w w':World} {ents:KM.Ents Pl} (h:RowsTo md M n w ents) (hg:w.grownBy w' (some M)):RowsTo md M n w' ents:=⟨h.1,fun p hp=>by
 obtain ⟨a,c,h1,h2⟩:=h.2 p hp
 exact ⟨a,c,h1,h2.kept (fun k hk hlt=>hg.block k hlt (fun e=>hk (Option.some.inj e))) hg.size⟩⟩
theorem RowIn.start {md:ModelD} {M n base:Nat} {w:World} {ents:KM.Ents Pl} (h:RowsTo md M n w ents) (wI:World) (hn:n<(placesL md).length):RowIn md (placesL md)[n] base ents 0 wI ents:=by
 have hno:(placesL md)[n]∉(placesL md).take n:=fun hm=>by
  obtain ⟨i,hi,he⟩:=List.mem_iff_getElem.1 hm
  rw [List.getElem_take] at he
  have:i=n:=(List.getElem_inj (placesL_nodup md)).1 he
  simp at hi;omega
 refine ⟨⟨none,0,?_,?_⟩,fun _ _=>rfl⟩
 ·rw [h.1 _ hno,leanTo_zero];rfl
 rw [leanTo_zero];exact Own.nil _ _ _ _
theorem RowIn.below {md:ModelD} {a:Pl} {base j:Nat} {ents0 ents:KM.Ents Pl} {w w':World} (h:RowIn md a base ents0 j w ents) (hb:Below w.heap.size w w'):RowIn md a base ents0 j w' ents:=by
 obtain ⟨⟨va,vc,h1,h2⟩,h3⟩:=h
 exact ⟨⟨va,vc,h1,h2.below hb (Nat.le_refl _)⟩,h3⟩
theorem RowIn.skip {md:ModelD} {a:Pl} {base j:Nat} {ents0 ents:KM.Ents Pl} {w:World} (h:RowIn md a base ents0 j w ents) (hj:j<(placesL md).length) (hl:leansB md a (placesL md)[j]=false):RowIn md a base ents0 (j+1) w ents:=by
 unfold RowIn
 rw [leanTo_succ md a hj,hl]
 exact h
theorem RowsTo.next {md:ModelD} {M n:Nat} {wI w:World} {ents0 ents:KM.Ents Pl} (h0:RowsTo md M n wI ents0) (hn:n<(placesL md).length) (hg:wI.grownBy w (some M)) (hM:M<wI.heap.size) (h:RowIn md (placesL md)[n] wI.heap.size ents0 (placesL md).length w ents):RowsTo md M (n+1) w ents:=by
 have h0':=h0.grown hg
 obtain ⟨⟨va,vc,h1,h2⟩,h3⟩:=h
 rw [leanTo_all] at h1 h2
 refine ⟨fun p hp=>?_,fun p hp=>?_⟩
 ·rw [List.take_succ_eq_append_getElem hn,List.mem_append,List.mem_singleton,not_or] at hp
  rw [h3 p hp.2];exact h0'.1 p hp.1
 rcases Classical.em (p=(placesL md)[n]) with rfl | hne
 ·exact ⟨va,vc,h1,((flat_own h2 (by omega) (fun _=>rfl)).readP).weak fun b hb _=>by have:wI.heap.size<=b:=hb;omega⟩
 rw [h3 p hne]
 rw [List.take_succ_eq_append_getElem hn,List.mem_append,List.mem_singleton] at hp
 exact h0'.2 p (hp.resolve_right hne)
theorem grown_in {wI w w':World} {M g:Nat} (h:wI.grownBy w (some M)) (h':w.grownBy w' (some g)) (hg:wI.heap.size<=g):wI.grownBy w' (some M) :=
 ⟨h'.os.trans h.os,h'.tape.trans h.tape,h'.output.trans h.output,Nat.le_trans h.size h'.size,fun k hk hne=>(h'.block k (Nat.lt_of_lt_of_le hk h.size) (fun e=>by cases e;omega)).trans (h.block k hk hne)⟩
theorem grown_none {w w':World} (h:w.grownBy w' none) (M:Nat):w.grownBy w' (some M):=⟨h.os,h.tape,h.output,h.size,fun k hk _=>h.block k hk (fun e=>by cases e)⟩
theorem below_grown {w w':World} (h:Below w.heap.size w w') (M:Nat):w.grownBy w' (some M):=⟨h.os,h.tape,h.output,h.size,fun k hk _=>h.block k hk⟩
theorem entry_step {md:ModelD} {a:Pl} {M j:Nat} {ents0 ents:KM.Ents Pl} {wI w:World} (hMb:M<wI.heap.size) (hG:wI.grownBy w (some M)) (hM:KM.MapIs plV okPl w M ents) (hR:RowIn md a wI.heap.size ents0 j w ents) (hj:j<(placesL md).length) (hl:leansB md a (placesL md)[j]=true) (ha:okPl a) (hlen:(placesL md).length<=4000) :
  ∃st va vc va' vc' n w1 w2 w3,(Instr.mapEntry 97 (.map (some M)) (plV a)).run Tryz.prog (w.alloc (.cells (plC (placesL md)[j]).toArray 33))=.ok (.tuple #[.slice va n vc,goInt st]) w1 /\
   (Builtin.append_ #[42,42] 42 #[.slice va n vc,.slice (some ⟨w.heap.size,0,none⟩) 1 1]).run Tryz.prog w1=.ok (.slice va' (n+1) vc') w2 /\
   (Instr.entryStore 97 (.map (some M)) (goInt st) (.slice va' (n+1) vc')).run Tryz.prog w2=.ok () w3/\wI.grownBy w3 (some M)/\∃ents',KM.MapIs plV okPl w3 M ents'/\RowIn md a wI.heap.size ents0 (j+1) w3 ents':=by
 obtain ⟨⟨va,vc,h1,h2⟩,h3⟩:=hR
 have hsz:=hG.size
 obtain ⟨wA,hwA⟩:∃wA,w.alloc (.cells (plC (placesL md)[j]).toArray 33)=wA:=⟨_,rfl⟩
 have hga:w.grownBy wA none:=hwA▸World.grownBy_alloc _ _ _
 have hszA:wA.heap.size=w.heap.size+1:=by rw [<-hwA,size_alloc]
 have hMA:KM.MapIs plV okPl wA M ents:=hwA▸hM.alloc _
 have hOA:Own wA wI.heap.size 33 3 va vc (leanTo md a j).length ((leanTo md a j).flatMap plC):=hwA▸h2.alloc _
 have hAr:Arr wA w.heap.size 33 (plC (placesL md)[j]):=hwA▸Arr.new w _ _
 obtain ⟨st,w1,he,hg1,hs1,hst⟩:=hMA.entry Tryz.underlying97 plEnc (z:=.slice none 0 0) Tryz.zeroValue42 ha
 rw [h1] at he
 have hO1:=hOA.grown hg1 (fun g hg e=>by cases e;have:=(hOA.lt hg).1;omega)
 have hne:w.heap.size≠M:=by omega
 have hAr1:w1.heap[w.heap.size]? = wA.heap[w.heap.size]?:=hg1.block _ (by omega) (fun e=>hne (Option.some.inj e))
 have hll:=leanTo_len md a j
 obtain ⟨va',vc',w2,hap,hO2,hg2⟩:=Own.app elemPl 42 hO1 (by omega) (some ⟨w.heap.size,0,none⟩) 1 1 w.heap.size 0 (plC (placesL md)[j]) rfl (fun _=>rfl) (fun i u hi=>by
  rw [World.cell?_of_block (show w1.heap[(⟨w.heap.size,0+i,none⟩:Addr).block]? = wA.heap[(⟨w.heap.size,0+i,none⟩:Addr).block]? from hAr1),Nat.zero_add]
  have hi':=lt_of_some hi
  have:=hAr.cell (j:=i) hi'
  rw [List.getElem?_eq_getElem hi'] at hi
  injection hi with hi
  rw [<-hi];exact this) (fun u hu=>by
  simp only [plC,List.mem_cons,List.not_mem_nil,or_false] at hu
  rcases hu with rfl | rfl | rfl<;>rfl) (by unfold maxLen;omega) (by omega)
 have hb2:w2.heap[M]? = w1.heap[M]?:=by
  refine hg2.block M ?_ (fun e=>?_)
  ·have:=hMA.lt;omega
  rcases hO1.block with ⟨e1,_⟩ | ⟨g,e1,e2,_⟩
  ·rw [e1] at e;cases e
  rw [e1] at e
  have:M=g:=Option.some.inj e
  omega
 obtain ⟨w3,hs3,hM3,hg3,-⟩:=hst w2 (.slice va' ((leanTo md a j).length+1) vc') hb2
 have hG1:wI.grownBy w1 (some M):=(hG.trans (grown_none hga M)).trans hg1
 have hG2:wI.grownBy w2 (some M):=by
  rcases hO1.block with ⟨e1,_⟩ | ⟨g,e1,e2,_⟩
  ·rw [e1] at hg2
   exact hG1.trans (grown_none hg2 M)
  rw [e1] at hg2
  exact grown_in hG1 hg2 e2
 refine ⟨st,va,vc,va',vc',(leanTo md a j).length,w1,w2,w3,by rw [hwA];exact he,hap,hs3,hG2.trans hg3,_,hM3,⟨va',vc',?_,?_⟩,fun p hp=>?_⟩
 ·rw [KM.getM_putM,if_pos rfl,leanTo_succ md a hj,if_pos hl,List.length_append];rfl
 ·rw [leanTo_succ md a hj,if_pos hl,List.length_append,List.flatMap_append]
  have hO3:=hO2.grown hg3 (fun g hg e=>by cases e;have:=(hO2.lt hg).1;omega)
  simpa using hO3
 rw [KM.getM_putM,if_neg (fun e=>hp e.symm)];exact h3 p hp
structure MainIs (md:ModelD) (T bo:Nat) (wJ:World) (va:Option Addr) (vc:Nat) (out rest:List Pl) (wr:World):Prop where
 below:Below T wJ wr
 outs:∃oa oc,wr.cell? ⟨T,0,none⟩=some (.slice oa out.length oc)/\Own wr bo 33 3 oa oc out.length (out.flatMap plC)
 left:Own wr (T+1) 33 3 va vc rest.length (rest.flatMap plC)
 lt:∀g,va=some ⟨g,0,none⟩->g<bo
 big:T<bo/\bo<=wr.heap.size
 mem:∀x∈rest,x∈placesL md
 ord:ordL (leansB md) (placesL md) rest.length out rest=orderL md
 len:out.length+rest.length<=4000
 frz:wr.frozen? ⟨T,0,none⟩=false
theorem MainIs.step {md:ModelD} {T bo:Nat} {wJ:World} {va:Option Addr} {vc:Nat} {out rest:List Pl} {w w':World} (h:MainIs md T bo wJ va vc out rest w) (hb:Below w.heap.size w w'):MainIs md T bo wJ va vc out rest w':=by
 obtain ⟨oa,oc,h1,h2⟩:=h.outs
 have hbig:=h.big
 exact ⟨h.below.trans (hb.mono (by omega)),⟨oa,oc,cellBelow2 hb h1,h2.below hb (Nat.le_refl _)⟩,h.left.below hb (Nat.le_refl _),h.lt,⟨hbig.1,Nat.le_trans hbig.2 hb.size⟩,h.mem,h.ord,h.len,by rw [World.frozen?_of_block (show w'.heap[(⟨T,0,none⟩:Addr).block]? = w.heap[(⟨T,0,none⟩:Addr).block]? from hb.block T (by omega))];exact h.frz⟩
theorem MainIs.outAt {md:ModelD} {T bo:Nat} {wJ:World} {va:Option Addr} {vc:Nat} {out rest:List Pl} {w:World} (h:MainIs md T bo wJ va vc out rest w):OutAt w T out:=by
 obtain ⟨oa,oc,h1,h2⟩:=h.outs
 exact ⟨oa,oc,h1,(flat_own h2 (by omega) (fun _=>rfl)).read⟩
theorem MainIs.restMem {md:ModelD} {T bo:Nat} {wJ:World} {va:Option Addr} {vc:Nat} {out rest:List Pl} {w:World} (h:MainIs md T bo wJ va vc out rest w):Mem true (From (T+1)) w (flatL 3 plC rest) (.slice va rest.length vc) :=
 flat_own h.left (by omega) (fun _=>rfl)
theorem ord_step {lean:Pl->Pl->Bool} {l out rest:List Pl} {i:Nat} (hi:rest.findIdx? (freeB lean l out)=some i) (h:i<rest.length):ordL lean l rest.length out rest=ordL lean l (rest.eraseIdx i).length (out++[rest[i]]) (rest.eraseIdx i):=by
 have hl:rest.length=(rest.eraseIdx i).length+1:=by rw [List.length_eraseIdx_of_lt h];omega
 rw [hl,ordL,hi]
 simp only [List.getElem?_eq_getElem h]
theorem ord_stop {lean:Pl->Pl->Bool} {l out rest:List Pl} (hi:rest.findIdx? (freeB lean l out)=none):ordL lean l rest.length out rest=out:=by
 cases hr:rest.length with
 | zero=>rfl
 | succ f=>rw [ordL,hi]
theorem flatPl_at (l:List Pl) (i k:Nat) (h:i<l.length) (hk:k<3):(l.flatMap plC)[i*3+k]? = (plC l[i])[k]?:=by
 have:=flat_at (k:=3) (l.map plC) (by intro v hv;obtain ⟨x,-,rfl⟩:=List.mem_map.1 hv;rfl) i k (by simpa using h) hk
 rw [<-List.flatMap_def,List.getElem_map] at this
 exact this
theorem MainIs.app {md:ModelD} {T bo:Nat} {wJ:World} {va:Option Addr} {vc:Nat} {out rest:List Pl} {w:World} (h:MainIs md T bo wJ va vc out rest w) (hT:T=wJ.heap.size) {oa:Option Addr} {oc:Nat} (hc:w.cell? ⟨T,0,none⟩=some (.slice oa out.length oc)) (p:Pl) :
  ∃g' vc' w1,(Builtin.append_ #[42,42] 42 #[.slice oa out.length oc,.slice (some ⟨w.heap.size,0,none⟩) 1 1]).run Tryz.prog (w.drew.alloc (.cells #[.int .i64 p.1,.int .i64 p.2.1,.int .i64 p.2.2] 33))=.ok (.slice (some ⟨g',0,none⟩) (out.length+1) vc') w1 /\
   w1.cell? ⟨T,0,none⟩=some (.slice oa out.length oc)/\w1.frozen? ⟨T,0,none⟩=false/\Own w1 (T+1) 33 3 va vc rest.length (rest.flatMap plC)/\Own (w1.setCell ⟨T,0,none⟩ (.slice (some ⟨g',0,none⟩) (out.length+1) vc')) (T+1) 33 3 va vc rest.length (rest.flatMap plC) /\
   ∀(i:Nat) (_:i<rest.length) (w3:World) (g:Nat),va=some ⟨g,0,none⟩->rest.findIdx? (freeB (leansB md) (placesL md) out)=some i->rest[i]=p ->
    Own w3 (T+1) 33 3 va vc (rest.eraseIdx i).length ((rest.eraseIdx i).flatMap plC)->(w1.setCell ⟨T,0,none⟩ (.slice (some ⟨g',0,none⟩) (out.length+1) vc')).grownBy w3 (some g)->MainIs md T bo wJ va vc (out++[p]) (rest.eraseIdx i) w3:=by
 obtain ⟨oa',oc',h1,h2⟩:=h.outs
 rw [hc] at h1
 injection h1 with h1
 injection h1 with e1 _ e3
 subst e1 e3
 have hbig:=h.big
 have hlen:=h.len
 obtain ⟨g',vc',w1,hap,hO1,hb1,-⟩:=own_snocP p h2.drew (by show bo<=w.heap.size;omega) (by omega)
 have hb1':Below bo w w1:=⟨hb1.os,hb1.tape,hb1.output,hb1.size,hb1.block⟩
 have hTT:w1.heap[T]? = w.heap[T]?:=hb1'.block T (by omega)
 have hg':=(hO1.lt rfl).1
 have hg'2:=(hO1.lt rfl).2
 have hOr:Own w1 (T+1) 33 3 va vc rest.length (rest.flatMap plC):=h.left.keptB fun g hg=>hb1'.block g (h.lt g hg)
 have hOr2:=hOr.setCell (a:=⟨T,0,none⟩) (fun g hg=>by have:=(h.left.lt hg).1;show g≠T;omega) (.slice (some ⟨g',0,none⟩) (out.length+1) vc')
 refine ⟨g',vc',w1,hap,?_,by rw [World.frozen?_of_block (show w1.heap[(⟨T,0,none⟩:Addr).block]? = w.heap[(⟨T,0,none⟩:Addr).block]? from hTT)];exact h.frz,hOr,hOr2,?_⟩
 ·rw [World.cell?_of_block (show w1.heap[(⟨T,0,none⟩:Addr).block]? = w.heap[(⟨T,0,none⟩:Addr).block]? from hTT),hc]
 intro i hi w3 g hva hfi hp hO3 hg3
 have hcs:w1.cell? ⟨T,0,none⟩=some (.slice oa out.length oc):=by rw [World.cell?_of_block (show w1.heap[(⟨T,0,none⟩:Addr).block]? = w.heap[(⟨T,0,none⟩:Addr).block]? from hTT),hc]
 have hgT:=(h.left.lt hva).1
 have hgb:=h.lt g hva
 have hsz1:w.heap.size<=w1.heap.size:=hb1'.size
 have hszs:(w1.setCell ⟨T,0,none⟩ (.slice (some ⟨g',0,none⟩) (out.length+1) vc')).heap.size=w1.heap.size:=by simp [World.setCell]
 have hsz3:=hg3.size
 rw [hszs] at hsz3
 have hT3:w3.heap[T]? = (w1.setCell ⟨T,0,none⟩ (.slice (some ⟨g',0,none⟩) (out.length+1) vc')).heap[T]?:=hg3.block T (by omega) (fun e=>by cases e;omega)
 refine ⟨?_,⟨some ⟨g',0,none⟩,vc',?_,?_⟩,hO3,h.lt,⟨hbig.1,by omega⟩,fun x hx=>h.mem x (List.mem_of_mem_eraseIdx hx),?_,?_,?_⟩
 ·refine ⟨(hg3.os.trans hb1'.os).trans h.below.os,(hg3.tape.trans hb1'.tape).trans h.below.tape,(hg3.output.trans hb1'.output).trans h.below.output,?_,fun k hk=>?_⟩
  ·have:=h.below.size;omega
  rw [hg3.block k (by omega) (fun e=>by cases e;omega),Below.heap_setCell _ _ _ _ (by show k≠T;omega),hb1'.block k (by omega),h.below.block k hk]
 ·rw [World.cell?_of_block (show w3.heap[(⟨T,0,none⟩:Addr).block]? = _ from hT3),List.length_append]
  exact World.cell?_setCell_same _ _ _ hcs
 ·have hO2:=(hO1.setCell (a:=⟨T,0,none⟩) (fun q hq=>by cases hq;show g'≠T;omega) (.slice (some ⟨g',0,none⟩) (out.length+1) vc')).grown hg3 (fun q hq e=>by cases hq;cases e;omega)
  exact hO2
 ·rw [<-hp,<-ord_step hfi hi];exact h.ord
 ·rw [List.length_append,List.length_eraseIdx_of_lt hi];simp;omega
 rw [World.frozen?_of_block (show w3.heap[(⟨T,0,none⟩:Addr).block]? = _ from hT3),World.frozen?_setCell,World.frozen?_of_block (show w1.heap[(⟨T,0,none⟩:Addr).block]? = w.heap[(⟨T,0,none⟩:Addr).block]? from hTT)];exact h.frz
def lenV:Value->Nat
 | .slice _ n _=>n
 | _=>0
def OrderedEnd (md:ModelD) (w:World) (e:Ending) (w':World):Prop:=Below w.heap.size w w'/\∃va vc,e=.returned (.slice va (orderL md).length vc)/\Mem false (From 0) w' (flatL 3 plC (orderL md)) (.slice va (orderL md).length vc)
theorem leansB_at {md:ModelD} {a:Pl} (ha:a∈placesL md) (b:Pl):∃s,senAt md a=some s/\leansB md a b=leansS md a b s:=by
 obtain ⟨s,hs⟩:=Option.isSome_iff_exists.1 (mem_placesL.1 ha)
 exact ⟨s,hs,by rw [leansB,hs]⟩
theorem place_stage {md:ModelD} {a:Pl} (ha:a∈placesL md) (h1:a.1=1):0<=a.2.1/\a.2.1<md.stages.length:=by
 obtain ⟨h2,h3⟩:=senAt_some.1 (mem_placesL.1 ha)
 obtain ⟨-,h4,-⟩:=senL_range h3
 refine ⟨h4,?_⟩
 rw [h1] at h3
 rcases Nat.lt_or_ge a.2.1.toNat md.stages.length with h5 | h5
 ·omega
 unfold senL at h3
 rw [if_neg (by omega),if_pos rfl,List.getElem?_eq_none h5] at h3
 simp at h3
theorem ordered_walk (md:ModelD) (v:ModelV) (w:World) (ga:Option Addr) (vc Mm:Nat) (ents:KM.Ents Pl) (hz:md.Sml) (hf:md.Few) (hi:InOk md) (hcs:∀p s,senAt md p=some s->s.cond.size≠0->∃t,readOf s.cond=some t) (hM:ModelM false (From 0) w md v) (hv:GRng w)
  (hP:Mem false (From 0) w (flatL 3 plC (placesL md)) (.slice ga (placesL md).length vc)) (hA:KM.MapIs plV okPl w Mm ents) (hAG:∀p,KM.getM ents p=senP md p) :
  Calls Tryz.prog 21 #[.agg (v.cs md).toArray,.slice ga (placesL md).length vc,.map (some Mm)] w (OrderedEnd md w):=by
 obtain ⟨_,_,b,off,hvv,-,hC⟩:=flat_open hP
 injection hvv with e1 e2 e3
 subst e1 e3
 obtain ⟨a1,n1,a2,n2,a3,n3,a4,n4,a5,n5⟩:=v
 obtain ⟨wa,hwa⟩:∃wa,w.alloc (.cells (ModelV.cs ⟨a1,n1,a2,n2,a3,n3,a4,n4,a5,n5⟩ md).toArray 31)=wa:=⟨_,rfl⟩
 obtain ⟨w1,hw1⟩:∃w1,(wa.alloc (.map #[] 0)).alloc (.cells #[.map (some (w.heap.size+1))] 97)=w1:=⟨_,rfl⟩
 have hza:wa.heap.size=w.heap.size+1:=by rw [<-hwa,size_alloc]
 have hba:Below w.heap.size w wa:=hwa▸(Below.refl _ _).alloc (Nat.le_refl _) _
 have hxa:Arr wa w.heap.size 31 (ModelV.cs ⟨a1,n1,a2,n2,a3,n3,a4,n4,a5,n5⟩ md):=hwa▸Arr.new w _ _
 have hb1:Below w.heap.size w w1:=hw1▸(hba.alloc (by omega) _).alloc (by rw [size_alloc];omega) _
 have hx1:Arr w1 w.heap.size 31 (ModelV.cs ⟨a1,n1,a2,n2,a3,n3,a4,n4,a5,n5⟩ md):=hw1▸(hxa.alloc _).alloc _
 have hm1:KM.MapIs plV okPl w1 (w.heap.size+1) []:=by
  have:=(KM.MapIs.made (val:=plV) (ok:=okPl) wa).alloc (.cells #[.map (some (w.heap.size+1))] 97)
  rw [hza,hw1] at this
  exact this
 have hc1:w1.cell? ⟨w.heap.size+1+1,0,none⟩=some (.map (some (w.heap.size+1))):=by
  have:=(Arr.new (wa.alloc (.map #[] 0)) [.map (some (w.heap.size+1))] 97).cell (j:=0) (by simp)
  rw [size_alloc,hza,show (wa.alloc (.map #[] 0)).alloc (.cells (List.toArray [Value.map (some (w.heap.size+1))]) 97)=w1 from hw1] at this
  exact this
 have hz1:w1.heap.size=w.heap.size+1+1+1:=by rw [<-hw1,size_alloc,size_alloc,hza]
 have hpl:(placesL md).length<=128:=by rw [length_placesL];exact hf.many
 have HIM:=hid hm1.isMap
 have hkeep:∀W,w1.grownBy W (some (w.heap.size+1))->Below w.heap.size w W:=fun W hg=>hb1.grown hg hb1.size (fun j hj=>by cases hj;omega)
 have HKP:=hid hkeep
 have hx6:∀W,w1.grownBy W (some (w.heap.size+1))->W.cell? ⟨w.heap.size,0,none⟩=some (.string md.name)/\W.cell? ⟨w.heap.size,1,none⟩=some (.slice a1 md.attrs.length n1)/\W.cell? ⟨w.heap.size,2,none⟩=some (.slice a2 md.events.length n2) /\
   W.cell? ⟨w.heap.size,3,none⟩=some (.slice a3 md.stages.length n3)/\W.cell? ⟨w.heap.size,4,none⟩=some (.slice a4 md.stones.length n4)/\W.cell? ⟨w.heap.size,5,none⟩=some (.slice a5 md.apart.length n5)/\W.cell? ⟨w.heap.size+1+1,0,none⟩=some (.map (some (w.heap.size+1))):=fun W hg=>by
  obtain ⟨y0,y1,y2,y3,y4,y5⟩:=box6 hx1 (Below.refl _ _)
  exact ⟨grown_cell hg y0 HIM.out,grown_cell hg y1 HIM.out,grown_cell hg y2 HIM.out,grown_cell hg y3 HIM.out,grown_cell hg y4 HIM.out,grown_cell hg y5 HIM.out,grown_cell hg hc1 HIM.out⟩
 have HX6:=hid hx6
 have HPC:=hid (fun W (hb:Below w.heap.size w W) (j:Nat) (hj:j<(placesL md).length)=>(⟨(hC.at0 (by omega)).1,cellBelow2 hb (hC.cell j hj 0 _ rfl),cellBelow2 hb (hC.cell j hj 1 _ rfl),cellBelow2 hb (hC.cell j hj 2 _ rfl)⟩:ga=some ⟨b,off,none⟩ /\
  W.cell? ⟨b,off+j*3,none⟩=some (.int .i64 (placesL md)[j].1)/\W.cell? ⟨b,off+j*3+1,none⟩=some (.int .i64 (placesL md)[j].2.1)/\W.cell? ⟨b,off+j*3+2,none⟩=some (.int .i64 (placesL md)[j].2.2)))
 have HMB:=hid (fun W (hb:Below w.heap.size w W)=>hM.grow hb)
 have HVB:=hid (fun W (hb:Below w.heap.size w W)=>hv.below hb)
 have HPB:=hid (fun W (hb:Below w.heap.size w W)=>hP.grow hb)
 have HLK:=hid (fun W (hb:Below w.heap.size w W) (p:Pl) (s:SentryD) (hp:okPl p) (hs:senAt md p=some s)=>(by
  have:=(hA.below hb hA.lt).get Tryz.underlying51 plEnc Tryz.zeroValue35 hp
  rw [hAG,senP,hs] at this
  exact this:(Instr.lookup 51 (.map (some Mm)) (plV p) false).run Tryz.prog W=.ok (senV s) W))
 have HM1:=hid hm1
 have HC1:=hid hc1
 have HZ:=hid hz
 have HF:=hid hf
 have HI:=hid hi
 have HCS:=hid hcs
 have HZ1:=hid hz1
 have HWA:=hid hwa
 have HW1:Hid ((wa.alloc (.map #[] 0)).alloc (.cells #[.map (some (w.heap.size+1))] 97)=w1):=hw1
 obtain ⟨y0,y1,y2,y3,y4,y5,yB⟩:=hx6 w1 (World.grownBy.refl _ _)
 have hmm:=@run_makeMap Tryz.prog
 clear hM hx1 hb1 hm1 hc1 hz hf hi hcs hv hP hA hAG hz1 hwa hw1 hba hxa hkeep hx6 hC e2
 go_enter Tryz.func21,Tryz.ntmps21
 go_upto_region 1 with fail
 rw [HWA.out]
 go_upto_region 2 with fail
 rw [HW1.out]
 go_wp2_with fail
 go_loopw [18] (fun i wr=>∃n:Nat,n<=(placesL md).length/\i=.int .i64 (n:Int)/\Hid (w1.grownBy wr (some (w.heap.size+1)))/\Hid (∃ents,KM.MapIs plV okPl wr (w.heap.size+1) ents/\RowsTo md (w.heap.size+1) n wr ents)) (fun i _=>(placesL md).length-(intOf i).toNat)
 case atStart=>exact ⟨0,Nat.zero_le _,rfl,World.grownBy.refl _ _,[],HM1.out,RowsTo.start _ _ _⟩
 obtain ⟨n,hnl,rfl,HG,HR⟩:=hrel
 obtain ⟨wo,rfl⟩:∃wo,wo=wr:=⟨_,rfl⟩
 by_cases hlt:n<(placesL md).length
 ·have i1:(n:Int)<((placesL md).length:Int):=by omega
  have i2:(0:Int)<=(n:Int):=by omega
  have HNL:=hid hlt
  obtain ⟨hga,c0,c1,c2⟩:=HPC.out wo (HKP.out wo HG.out) n hlt
  subst hga
  obtain ⟨a,ha⟩:∃a,(placesL md)[n]'hlt=a:=⟨_,rfl⟩
  rw [ha] at c0 c1 c2
  have ham:a∈placesL md:=ha▸List.getElem_mem hlt
  have hoka:=okPl_places HF.out ham
  obtain ⟨p0,p1,p2⟩:=a
  simp only at c0 c1 c2
  obtain ⟨wI,hwI⟩:∃wI,wo.alloc (.cells #[.int .i64 p0,.int .i64 p1,.int .i64 p2] 33)=wI:=⟨_,rfl⟩
  have hgI:wo.grownBy wI (some (w.heap.size+1)):=hwI▸World.grownBy_alloc _ _ _
  have hG1I:=HG.out.trans hgI
  obtain ⟨ents0,hm0,hr0⟩:=HR.out
  have hmI:KM.MapIs plV okPl wI (w.heap.size+1) ents0:=hwI▸hm0.alloc _
  have hrI:=hr0.grown hgI
  have hxA:Arr wI wo.heap.size 33 [.int .i64 p0,.int .i64 p1,.int .i64 p2]:=hwI▸Arr.new wo _ _
  have hMlt:w.heap.size+1<wI.heap.size:=hmI.lt
  have hsA:∀W,wI.grownBy W (some (w.heap.size+1))->W.cell? ⟨wo.heap.size,0,none⟩=some (.int .i64 p0)/\W.cell? ⟨wo.heap.size,1,none⟩=some (.int .i64 p1)/\W.cell? ⟨wo.heap.size,2,none⟩=some (.int .i64 p2):=fun W hg =>
   ⟨grown_cell hg (hxA.cell (j:=0) (by simp)) hmI.isMap,grown_cell hg (hxA.cell (j:=1) (by simp)) hmI.isMap,grown_cell hg (hxA.cell (j:=2) (by simp)) hmI.isMap⟩
  have HSA:=hid hsA
  have HWI:=hid hwI
  have HGI:=hid hG1I
  have HRI:=hid hrI
  have HMI:=hid hmI
  have HML:=hid hMlt
  have HAM:=hid ham
  have HOK:=hid hoka
  have HA:=hid ha
  clear y0 y1 y2 y3 y4 y5 yB hgI hG1I hm0 hr0 hmI hrI hxA hMlt hsA hwI ha ham hoka HR
  go_upto_region 5 with fail
  rw [HWI.out]
  go_wp2_with fail
  clear c0 c1 c2
  go_loopw [24] (fun i wr2=>∃j:Nat,j<=(placesL md).length/\i=.int .i64 (j:Int)/\Hid (wI.grownBy wr2 (some (w.heap.size+1)))/\Hid (∃ents,KM.MapIs plV okPl wr2 (w.heap.size+1) ents/\RowIn md (p0,p1,p2) wI.heap.size ents0 j wr2 ents)) (fun i _=>(placesL md).length-(intOf i).toNat)
  case atStart=>exact ⟨0,Nat.zero_le _,rfl,World.grownBy.refl _ _,ents0,HMI.out,HA.out▸RowIn.start HRI.out wI HNL.out⟩
  obtain ⟨j,hjl,rfl,HG2,HR2⟩:=hrel
  by_cases hjt:j<(placesL md).length
  ·have j1:(j:Int)<((placesL md).length:Int):=by omega
   have j2:(0:Int)<=(j:Int):=by omega
   have HJT:=hid hjt
   have hG12:=HGI.out.trans HG2.out
   obtain ⟨-,c0,c1,c2⟩:=HPC.out wr (HKP.out wr hG12) j hjt
   obtain ⟨y0,y1,y2,y3,y4,y5,yB⟩:=HX6.out wr hG12
   obtain ⟨x0,x1,x2⟩:=HSA.out wr HG2.out
   obtain ⟨bb,hbb⟩:∃bb,(placesL md)[j]'hjt=bb:=⟨_,rfl⟩
   rw [hbb] at c0 c1 c2
   obtain ⟨q0,q1,q2⟩:=bb
   simp only at c0 c1 c2
   obtain ⟨wB,hwB⟩:∃wB,wr.alloc (.cells #[.int .i64 q0,.int .i64 q1,.int .i64 q2] 33)=wB:=⟨_,rfl⟩
   have hbB:Below wr.heap.size wr wB:=hwB▸(Below.refl _ _).alloc (Nat.le_refl _) _
   have hxB:Arr wB wr.heap.size 33 [.int .i64 q0,.int .i64 q1,.int .i64 q2]:=hwB▸Arr.new wr _ _
   have hG1B:w1.grownBy wB (some (w.heap.size+1)):=hG12.trans (below_grown hbB _)
   have hG2B:wI.grownBy wB (some (w.heap.size+1)):=HG2.out.trans (below_grown hbB _)
   obtain ⟨s,hs,hls⟩:=leansB_at HAM.out (q0,q1,q2)
   have HL:=hid (fun W (hb:Below wB.heap.size wB W)=>leans_walk md ⟨a1,n1,a2,n2,a3,n3,a4,n4,a5,n5⟩ (p0,p1,p2) (q0,q1,q2) s W HZ.out HI.out (place_stage HAM.out) (HCS.out _ s hs) (HMB.out W (HKP.out W (hG1B.trans (below_grown hb _)))) (HVB.out W (HKP.out W (hG1B.trans (below_grown hb _)))))
   have HSW:Hid (∀W',Below wB.heap.size wB W'->(Below wB.heap.size wB W'/\W'.cell? ⟨w.heap.size,0,none⟩=some (.string md.name)/\W'.cell? ⟨w.heap.size,1,none⟩=some (.slice a1 md.attrs.length n1)/\W'.cell? ⟨w.heap.size,2,none⟩=some (.slice a2 md.events.length n2) /\
    W'.cell? ⟨w.heap.size,3,none⟩=some (.slice a3 md.stages.length n3)/\W'.cell? ⟨w.heap.size,4,none⟩=some (.slice a4 md.stones.length n4)/\W'.cell? ⟨w.heap.size,5,none⟩=some (.slice a5 md.apart.length n5) /\
    W'.cell? ⟨wo.heap.size,0,none⟩=some (.int .i64 p0)/\W'.cell? ⟨wo.heap.size,1,none⟩=some (.int .i64 p1)/\W'.cell? ⟨wo.heap.size,2,none⟩=some (.int .i64 p2) /\
    W'.cell? ⟨wr.heap.size,0,none⟩=some (.int .i64 q0)/\W'.cell? ⟨wr.heap.size,1,none⟩=some (.int .i64 q1)/\W'.cell? ⟨wr.heap.size,2,none⟩=some (.int .i64 q2) /\
    (Instr.lookup 51 (.map (some Mm)) (.agg #[.int .i64 p0,.int .i64 p1,.int .i64 p2]) false).run Tryz.prog W'=.ok (senV s) W')):=fun W' hb=>by
    have hgg:=hG1B.trans (below_grown hb _)
    obtain ⟨z0,z1,z2,z3,z4,z5,-⟩:=HX6.out W' hgg
    obtain ⟨x0,x1,x2⟩:=HSA.out W' (hG2B.trans (below_grown hb _))
    exact ⟨hb,z0,z1,z2,z3,z4,z5,x0,x1,x2,cellBelow2 hb (hxB.cell (j:=0) (by simp)),cellBelow2 hb (hxB.cell (j:=1) (by simp)),cellBelow2 hb (hxB.cell (j:=2) (by simp)),HLK.out W' (HKP.out W' hgg) (p0,p1,p2) s HOK.out hs⟩
   obtain ⟨r,hr⟩:∃r,leansS md (p0,p1,p2) (q0,q1,q2) s=r:=⟨_,rfl⟩
   simp only [hr,plV,senV] at HL
   simp only [senV] at HSW
   have HWB:=hid hwB
   have HG1B:=hid hG1B
   have HG2B:=hid hG2B
   have HLS:Hid (leansB md (p0,p1,p2) ((placesL md)[j]'hjt)=r):=by show _=_;rw [hbb,hls,hr]
   have HBB:=hid hbb
   have HRB:Hid (∃ents,KM.MapIs plV okPl wB (w.heap.size+1) ents/\RowIn md (p0,p1,p2) wI.heap.size ents0 j wB ents):=by
    obtain ⟨e,h1,h2⟩:=HR2.out
    exact ⟨e,h1.below hbB h1.lt,h2.below hbB⟩
   have hq0:=(Below.refl wB.heap.size wB).drew
   clear hG12 hbb hbB hxB hG1B hG2B hs hls hr hwB HR2 HG2
   go_upto_region 8 with fail
   rw [HWB.out]
   clear c0 c1 c2 y0 y1 y2 y3 y4 y5 yB x0 x1 x2
   go_region_held3 (fun W'=>Below wB.heap.size wB W'/\W'.cell? ⟨w.heap.size,0,none⟩=some (.string md.name)/\W'.cell? ⟨w.heap.size,1,none⟩=some (.slice a1 md.attrs.length n1)/\W'.cell? ⟨w.heap.size,2,none⟩=some (.slice a2 md.events.length n2) /\
    W'.cell? ⟨w.heap.size,3,none⟩=some (.slice a3 md.stages.length n3)/\W'.cell? ⟨w.heap.size,4,none⟩=some (.slice a4 md.stones.length n4)/\W'.cell? ⟨w.heap.size,5,none⟩=some (.slice a5 md.apart.length n5) /\
    W'.cell? ⟨wo.heap.size,0,none⟩=some (.int .i64 p0)/\W'.cell? ⟨wo.heap.size,1,none⟩=some (.int .i64 p1)/\W'.cell? ⟨wo.heap.size,2,none⟩=some (.int .i64 p2) /\
    W'.cell? ⟨wr.heap.size,0,none⟩=some (.int .i64 q0)/\W'.cell? ⟨wr.heap.size,1,none⟩=some (.int .i64 q1)/\W'.cell? ⟨wr.heap.size,2,none⟩=some (.int .i64 q2) /\
    (Instr.lookup 51 (.map (some Mm)) (.agg #[.int .i64 p0,.int .i64 p1,.int .i64 p2]) false).run Tryz.prog W'=.ok (.agg #[.int .u8 s.on,.string s.name,.string s.cond]) W')
    (first | exact HSW.out _ (Below.refl _ _) | exact HSW.out _ hq0 | exact HSW.out _ hq1)
    (first
     | (go_at_call 18;refine (HL.out _ hq0).mono ?_;rintro e W1 ⟨rfl,hb⟩;have hq1:=hq0.trans (hb.mono hq0.size);clear hb HL))
   have hq1G:=HG2B.out.trans (below_grown hq1 (w.heap.size+1))
   have hq1H:=HG1B.out.trans (below_grown hq1 (w.heap.size+1))
   have wr1:IntKind.i64.wrap ((j:Int)+1)=(j:Int)+1:=wrap_i64 (by omega) (by omega)
   obtain ⟨e1,hm1,hr1⟩:=HRB.out
   have hm2:=hm1.below hq1 hm1.lt
   have hr2:=hr1.below hq1
   cases r with
   | true =>
    obtain ⟨st,ra,rc,ra',rc',rn,u1,u2,u3,he,hap,hes,hg3,hrr⟩:=entry_step HML.out hq1G hm2 hr2 HJT.out HLS.out HOK.out (by omega)
    rw [HBB.out] at he
    replace he:(Instr.mapEntry 97 (.map (some (w.heap.size+1))) (.agg #[.int .i64 p0,.int .i64 p1,.int .i64 p2])).run Tryz.prog (W1.alloc (.cells #[.int .i64 q0,.int .i64 q1,.int .i64 q2] 33))=.ok (.tuple #[.slice ra rn rc,goInt st]) u1:=he
    have HAP:=hid hap
    have HG3:=hid hg3
    have HRR:=hid hrr
    obtain ⟨-,-,-,-,-,-,-,x0,x1,x2,c0,c1,c2,-⟩:=HSW.out _ hq1
    obtain ⟨-,-,-,-,-,-,yB⟩:=HX6.out _ hq1H
    simp only [goInt] at he hes
    clear hap hg3 hrr hm1 hr1 hm2 hr2 hq1G hq1H hq0 hq1 HRB HSW
    go_wp2_with (at_builtin;refine wpList_append_run (by rfl) (.tmp 37) (.tmp 39) 42 (by rfl) (by rfl) (by rfl) HAP.out ?_)
    refine ⟨⟨j+1,by have:=HJT.out;omega,by go_num,HG3.out,HRR.out⟩,by simp only [intOf];have:=HJT.out;omega⟩
   | false =>
    have HRR:Hid (∃ents,KM.MapIs plV okPl W1 (w.heap.size+1) ents/\RowIn md (p0,p1,p2) wI.heap.size ents0 (j+1) W1 ents):=⟨e1,hm2,hr2.skip HJT.out HLS.out⟩
    have HG3:=hid hq1G
    clear hm1 hr1 hm2 hr2 hq1G hq1H hq0 hq1 HRB HSW
    go_wp2_with fail
    refine ⟨⟨j+1,by have:=HJT.out;omega,by go_num,HG3.out,HRR.out⟩,by simp only [intOf];have:=HJT.out;omega⟩
  obtain rfl:j=(placesL md).length:=by omega
  have j1:¬((placesL md).length:Int)<((placesL md).length:Int):=by omega
  have wr1:IntKind.i64.wrap ((n:Int)+1)=(n:Int)+1:=wrap_i64 (by omega) (by omega)
  have HGN:=hid (HGI.out.trans HG2.out)
  have HRN:Hid (∃ents,KM.MapIs plV okPl wr (w.heap.size+1) ents/\RowsTo md (w.heap.size+1) (n+1) wr ents):=by
   obtain ⟨e1,h1,h2⟩:=HR2.out
   exact ⟨e1,h1,HRI.out.next HNL.out HG2.out HML.out (HA.out▸h2)⟩
  clear HR2 HG2
  go_wp2_with fail
  refine ⟨⟨n+1,by have:=HNL.out;omega,by go_num,HGN.out,HRN.out⟩,by simp only [intOf];have:=HNL.out;omega⟩
 obtain rfl:n=(placesL md).length:=by omega
 have i1:¬((placesL md).length:Int)<((placesL md).length:Int):=by omega
 obtain ⟨wK,hwK⟩:∃wK,wo.alloc (.cells #[.slice none 0 0] 42)=wK:=⟨_,rfl⟩
 have hbK:Below wo.heap.size wo wK:=hwK▸(Below.refl _ _).alloc (Nat.le_refl _) _
 have hxK:Arr wK wo.heap.size 42 [.slice none 0 0]:=hwK▸Arr.new wo _ _
 have hfK:wK.frozen? ⟨wo.heap.size,0,none⟩=false:=hwK▸World.frozen?_alloc_new wo _ _ _
 have hszK:wK.heap.size=wo.heap.size+1:=by rw [<-hwK,size_alloc]
 obtain ⟨e0,hm0,hr0⟩:=HR.out
 have HMO:=hid hm0
 have HRO:=hid hr0.all
 have HG1K:=hid (HG.out.trans (below_grown hbK _))
 have HCL:=hid (clonePls (placesL md) ga vc wK (by omega) (HPB.out wK (HKP.out wK HG1K.out)))
 have hMlt:w.heap.size+1<wo.heap.size:=hm0.lt
 have HMLT:=hid hMlt
 have HBK:=hid hbK
 have HXK:=hid (hxK.cell (j:=0) (by simp))
 have HFK:=hid hfK
 have HSK:=hid hszK
 have HWK:=hid hwK
 have hw1le:=HG.out.size
 rw [HZ1.out] at hw1le
 have HW1L:=hid hw1le
 clear hbK hxK hfK hszK hm0 hr0 hMlt hwK HR y0 y1 y2 y3 y4 y5 yB hw1le
 go_upto_region 13 with fail
 rw [HWK.out]
 go_wp2_with fail
 refine HCL.out.mono ?_
 rintro e wM ⟨ra,rc,rfl,hO,hbM⟩
 obtain ⟨bo,hbo⟩:∃bo,wM.heap.size=bo:=⟨_,rfl⟩
 have hTT:wM.heap[wo.heap.size]? = wK.heap[wo.heap.size]?:=hbM.block _ (by rw [HSK.out];omega)
 have hMn:MainIs md wo.heap.size bo wo ra rc [] (placesL md) wM:=by
  refine ⟨HBK.out.trans (hbM.mono (by rw [HSK.out];omega)),⟨none,0,?_,Own.nil _ _ _ _⟩,by rw [HSK.out] at hO;exact hO,fun g hg=>by rw [<-hbo];exact (hO.lt hg).2,⟨by have:=hbM.size;rw [HSK.out] at this;omega,by omega⟩,fun x hx=>hx,rfl,by simp;omega,?_⟩
  ·rw [World.cell?_of_block (show wM.heap[(⟨wo.heap.size,0,none⟩:Addr).block]? = _ from hTT)];exact HXK.out
  rw [World.frozen?_of_block (show wM.heap[(⟨wo.heap.size,0,none⟩:Addr).block]? = _ from hTT)];exact HFK.out
 have HMN:=hid hMn
 have HWKO:Hid (∀W,Below wo.heap.size wo W->Below w.heap.size w W/\W.cell? ⟨w.heap.size+1+1,0,none⟩=some (.map (some (w.heap.size+1)))/\KM.MapIs plV okPl W (w.heap.size+1) e0/\RowsAll md W (w.heap.size+1) e0):=fun W hb=>by
  have hgg:=HG.out.trans (below_grown hb (w.heap.size+1))
  obtain ⟨-,-,-,-,-,-,yB⟩:=HX6.out W hgg
  exact ⟨HKP.out W hgg,yB,HMO.out.below hb HMLT.out,HRO.out.below hb⟩
 have egF:∀args w,(callFunc 53 args).run Tryz.prog w=.ok (.enter 53 args) w:=enters_of Tryz.func53 (by kernel_rfl) rfl
 have HEG:=hid egF
 clear hO hbM hTT hMn egF HCL HXK HFK HSK hbo
 go_wp2_with fail
 go_loopw [13] (fun r wr=>∃out rest,r=.slice ra rest.length rc/\Hid (MainIs md wo.heap.size bo wo ra rc out rest wr)) (fun r _=>lenV r)
 case atStart=>exact ⟨[],placesL md,rfl,HMN.out⟩
 obtain ⟨out,rest,rfl,HMI⟩:=hrel
 have hMI:=HMI.out
 have hlen:=hMI.len
 obtain ⟨hbw,yB,hmm1,hra1⟩:=HWKO.out wr hMI.below
 by_cases h0:0<rest.length
 ·have k1:(0:Int)<(rest.length:Int):=by omega
  have HIX:=hid (ixPlS (·∈placesL md) (freeB (leansB md) (placesL md) out) 53 #[.pointer (some ⟨w.heap.size+1+1,0,none⟩),.pointer (some ⟨wo.heap.size,0,none⟩)] HEG.out rest hMI.mem ra rc wr (by omega) hMI.restMem
   (freeCl md HF.out out (w.heap.size+1+1) wo.heap.size (w.heap.size+1) e0 wr (by omega) hMI.outAt yB hmm1 hra1))
  have HYB:=hid hmm1
  cases hix:rest.findIdx? (freeB (leansB md) (placesL md) out) with
  | none =>
   have hv1:ixOf (freeB (leansB md) (placesL md) out) rest = -1:=by unfold ixOf;rw [hix]
   rw [hv1] at HIX
   have hout:orderL md=out:=by rw [<-hMI.ord];exact ord_stop hix
   have HOUT:=hid hout
   have k2:(-1:Int)<0:=by omega
   clear hMI hbw hmm1 hra1 yB hix hv1 hout
   go_wp2_with fail
   refine HIX.out.mono ?_
   rintro e w2 ⟨rfl,hb2⟩
   have hMI2:=HMI.out.step hb2
   obtain ⟨oa,oc,cT,hO⟩:=hMI2.outs
   have HQ:Hid (OrderedEnd md w (.returned (.slice oa out.length oc)) w2):=by
    refine ⟨(HWKO.out w2 hMI2.below).1,oa,oc,by rw [HOUT.out],?_⟩
    rw [HOUT.out]
    exact (flat_own hO (by omega) (fun _=>rfl)).read
   clear hMI2 hO hb2 HIX
   go_wp2_with fail
   go_ret
   exact HQ.out
  | some i =>
   obtain ⟨hi1,-,-⟩:=List.findIdx?_eq_some_iff_getElem.1 hix
   have hv1:ixOf (freeB (leansB md) (placesL md) out) rest=(i:Int):=by unfold ixOf;rw [hix]
   rw [hv1] at HIX
   have k2:¬((i:Int)<0):=by omega
   have k3:(0:Int)<=(i:Int):=by omega
   have k4:(i:Int)<(rest.length:Int):=by omega
   have HI1:=hid hi1
   have HFI:=hid hix
   clear hMI hbw hmm1 hra1 yB hix hv1 hi1
   go_wp2_with fail
   refine HIX.out.mono ?_
   rintro e w2 ⟨rfl,hb2⟩
   have hMI2:=HMI.out.step hb2
   obtain ⟨g,hga,-,-,hcell,-⟩:=hMI2.left.cell (by omega)
   obtain ⟨oa,oc,cT,hO⟩:=hMI2.outs
   obtain ⟨p,hp⟩:∃p,rest[i]'HI1.out=p:=⟨_,rfl⟩
   obtain ⟨g',oc',w3,hap,hcs,hfz,hOr0,hOr,hnext⟩:=hMI2.app rfl cT p
   subst hga
   have hcells:∀W,Own W (wo.heap.size+1) 33 3 (some ⟨g,0,none⟩) rc rest.length (rest.flatMap plC)->W.cell? ⟨g,i*3,none⟩=some (.int .i64 p.1)/\W.cell? ⟨g,i*3+1,none⟩=some (.int .i64 p.2.1)/\W.cell? ⟨g,i*3+2,none⟩=some (.int .i64 p.2.2):=fun W hW=>by
    have:=HI1.out
    obtain ⟨g2,hg2,-,-,hcell,-⟩:=hW.cell (by omega)
    cases hg2
    exact ⟨hcell (i*3) _ (by rw [show i*3=i*3+0 by omega,flatPl_at rest i 0 HI1.out (by omega),hp];rfl),hcell (i*3+1) _ (by rw [flatPl_at rest i 1 HI1.out (by omega),hp];rfl),hcell (i*3+2) _ (by rw [flatPl_at rest i 2 HI1.out (by omega),hp];rfl)⟩
   have hS1:=hcells w2.drew hMI2.left.drew
   have hS2:=hcells _ (hMI2.left.drew.alloc (.cells #[.int .i64 p.1,.int .i64 p.2.1,.int .i64 p.2.2] 33))
   have hS3:=hcells _ hOr0
   have hS4:=hcells _ hOr
   have cT1:w2.drew.cell? ⟨wo.heap.size,0,none⟩=some (.slice oa out.length oc):=cT
   have cT2:(w2.drew.alloc (.cells #[.int .i64 p.1,.int .i64 p.2.1,.int .i64 p.2.2] 33)).cell? ⟨wo.heap.size,0,none⟩=some (.slice oa out.length oc):=Lib.cell?_alloc_some _ cT1
   have cT3:(w2.alloc (.cells #[.int .i64 p.1,.int .i64 p.2.1,.int .i64 p.2.2] 33)).drew.cell? ⟨wo.heap.size,0,none⟩=some (.slice oa out.length oc):=cT2
   have HS1:=hid hS1
   have HS2:=hid hS2
   have HS3:=hid hS3
   have HS4:=hid hS4
   have HAP:=hid hap
   have HDE:=hid (fun W (h:Own W (wo.heap.size+1) 33 3 (some ⟨g,0,none⟩) rc rest.length (rest.flatMap plC))=>delete_walk rest i HI1.out (wo.heap.size+1) g rc W (by omega) h)
   have HOR:=hid hOr
   have HNX:=hid (hnext i HI1.out · g rfl HFI.out hp)
   have hw1:IntKind.i64.wrap ((i:Int)+1)=(i:Int)+1:=wrap_i64 (by omega) (by omega)
   clear hMI2 hO hb2 HIX hap hOr0 hOr hnext hcell hp hcells hS1 hS2 hS3 hS4
   go_upto_region 17 with fail
   refine wp_region_held_drew (S:=(fun W'=>W'.cell? ⟨g,i*3,none⟩=some (.int .i64 p.1)/\W'.cell? ⟨g,i*3+1,none⟩=some (.int .i64 p.2.1)/\W'.cell? ⟨g,i*3+2,none⟩=some (.int .i64 p.2.2))) (by kernel_rfl) HS1.out (fun hH=>?_)
   refine tK (i:=1) (oi:=⟨some 56,.move (.tmp 13),42,"model.go:232",#[],none⟩) (v:=.slice (some ⟨g,0,none⟩) rest.length rc) (Or.inl ⟨by rfl,fun W hS=>by go_simp⟩) hH ?_
   refine tK (i:=2) (oi:=⟨some 57,.move (.tmp 14),3,"model.go:232",#[],none⟩) (v:=.int .i64 i) (Or.inl ⟨by rfl,fun W hS=>by go_simp⟩) hH ?_
   refine tK (i:=3) (oi:=⟨some 58,.indexAddr 42 (.tmp 56) (.tmp 57),0,"model.go:232",#[⟨1,.data⟩,⟨2,.data⟩],none⟩) (v:=.pointer (some ⟨g,i*3,none⟩)) (Or.inl ⟨by rfl,fun W hS=>by go_simp⟩) hH ?_
   refine tK (i:=4) (oi:=⟨some 59,.load 33 (.tmp 58),33,"model.go:232",#[⟨3,.data⟩],none⟩) (v:=.agg #[.int .i64 p.1,.int .i64 p.2.1,.int .i64 p.2.2]) (Or.inl ⟨by rfl,fun W hS=>by obtain ⟨e0,e1,e2⟩:=hS;go_simp⟩) hH ?_
   refine rD [0,5] ?_
   refine AllReadyH.cons rfl (fun K hK=>?_) (AllReadyH.cons rfl (fun K hK=>?_) AllReadyH.nil)
   ·go_simp
    refine kK hK hH (fun hH=>?_)
    clear hK K
    refine rD [5] ?_
    refine AllReadyH.cons rfl (fun K hK=>?_) AllReadyH.nil
    go_simp
    refine kK hK HS2.out (fun hH=>?_)
    clear hK K
    refine rD [6] ?_
    refine AllReadyH.cons rfl (fun K hK=>?_) AllReadyH.nil
    refine step_append_run (by rfl) (.tmp 55) (.tmp 60) 42 (by rfl) (by rfl) (by rfl) HAP.out ?_
    refine kK hK HS3.out (fun hH=>?_)
    clear hK K
    refine rD [7] ?_
    refine AllReadyH.cons rfl (fun K hK=>?_) AllReadyH.nil
    go_simp
    refine kK hK HS4.out (fun hH=>?_)
    clear hK K
    refine wpAnyH_done (by kernel_rfl) ?_ _
    go_wp2_with fail
    refine (HDE.out _ HOR.out).mono ?_
    rintro e w5 ⟨rfl,hO5,hg5⟩
    have HM5:=hid (HNX.out w5 hO5 hg5)
    have HLT:Hid ((rest.eraseIdx i).length<rest.length):=by have:=HI1.out;show _<_;rw [List.length_eraseIdx_of_lt HI1.out];omega
    clear hO5 hg5
    go_wp2_with fail
    exact ⟨⟨out++[p],rest.eraseIdx i,rfl,HM5⟩,by simp only [lenV];exact HLT.out⟩
   go_simp
   refine kK hK HS2.out (fun hH=>?_)
   clear hK K
   refine rD [0] ?_
   refine AllReadyH.cons rfl (fun K hK=>?_) AllReadyH.nil
   go_simp
   refine kK hK hH (fun hH=>?_)
   clear hK K
   refine rD [6] ?_
   refine AllReadyH.cons rfl (fun K hK=>?_) AllReadyH.nil
   refine step_append_run (by rfl) (.tmp 55) (.tmp 60) 42 (by rfl) (by rfl) (by rfl) HAP.out ?_
   refine kK hK HS3.out (fun hH=>?_)
   clear hK K
   refine rD [7] ?_
   refine AllReadyH.cons rfl (fun K hK=>?_) AllReadyH.nil
   go_simp
   refine kK hK HS4.out (fun hH=>?_)
   clear hK K
   refine wpAnyH_done (by kernel_rfl) ?_ _
   go_wp2_with fail
   refine (HDE.out _ HOR.out).mono ?_
   rintro e w5 ⟨rfl,hO5,hg5⟩
   have HM5:=hid (HNX.out w5 hO5 hg5)
   have HLT:Hid ((rest.eraseIdx i).length<rest.length):=by have:=HI1.out;show _<_;rw [List.length_eraseIdx_of_lt HI1.out];omega
   clear hO5 hg5
   go_wp2_with fail
   exact ⟨⟨out++[p],rest.eraseIdx i,rfl,HM5⟩,by simp only [lenV];exact HLT.out⟩
 have hr0:rest=[]:=List.eq_nil_of_length_eq_zero (by omega)
 subst hr0
 have hout:orderL md=out:=by rw [<-hMI.ord];rfl
 obtain ⟨oa,oc,cT,hO⟩:=hMI.outs
 have HQ:Hid (OrderedEnd md w (.returned (.slice oa out.length oc)) wr):=by
  refine ⟨hbw,oa,oc,by rw [hout],?_⟩
  rw [hout]
  exact (flat_own hO (by omega) (fun _=>rfl)).read
 clear hMI hO hbw hmm1 hra1 hout
 go_wp2_with fail
 go_ret
 exact HQ.out
end Go.Proofs.YtfbbkmdhnkmonaaGreatDoor
