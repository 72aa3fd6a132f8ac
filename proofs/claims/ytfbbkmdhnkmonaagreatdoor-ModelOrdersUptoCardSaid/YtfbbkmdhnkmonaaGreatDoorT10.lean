/- Proved, each under the conditions that it names: package model: events, sentry; slices.Compare at numbers; the comparison of places; slices.SortFunc on places; package model: places: all sentries by their places. -/
import Derived.Test.YtfbbkmdhnkmonaaGreatDoorT09
import Derived.Sort.Walk0
import Derived.Sort.Statements
import Derived.Shelf.SlSortCmp.WholeK
import Derived.Shelf.SlSortCmp.NoneTotal
import Derived.Ground.SlsfProg
import Derived.Deep.LoopGhost
set_option maxRecDepth 100000
set_option maxHeartbeats 32000000
namespace Go.Proofs.YtfbbkmdhnkmonaaGreatDoor
open Go.RowKit
theorem stage_at {md:ModelD} {v:ModelV} {w:World} (h:ModelM false (From 0) w md v) {m:Nat} (hm:m<md.stages.length):∃b off,v.a3=some ⟨b,off,none⟩/\b<w.heap.size/\∃d1 e1 d2 e2,
  Mem false (From 0) w (senD md.stages[m].opens) (.slice d1 md.stages[m].opens.length e1)/\Mem false (From 0) w (senD md.stages[m].closes) (.slice d2 md.stages[m].closes.length e2) /\
  w.cell? ⟨b,off+m*7,none⟩=some (.string md.stages[m].name)/\w.cell? ⟨b,off+m*7+1,none⟩=some (.int .i64 md.stages[m].inn)/\w.cell? ⟨b,off+m*7+2,none⟩=some (.slice d1 md.stages[m].opens.length e1) /\
  w.cell? ⟨b,off+m*7+3,none⟩=some (.slice d2 md.stages[m].closes.length e2)/\w.cell? ⟨b,off+m*7+4,none⟩=some (.string md.stages[m].role)/\w.cell? ⟨b,off+m*7+5,none⟩=some (.int .i64 md.stages[m].aft)/\w.cell? ⟨b,off+m*7+6,none⟩=some (.string md.stages[m].event):=by
 obtain ⟨_,_,b,off,hv,-,hC⟩:=rec_open h.stages
 injection hv with e1 e2 e3
 subst e1 e3
 obtain ⟨ha,-,hbl⟩:=hC.at0 (by omega)
 obtain ⟨us,hus,hcell⟩:=hC.row m hm
 obtain ⟨d1,e1,d2,e2,hu,m1,m2⟩:=StageD.cells hus
 subst hu
 exact ⟨b,off,ha,hbl,d1,e1,d2,e2,m1,m2,hcell 0 _ rfl,hcell 1 _ rfl,hcell 2 _ rfl,hcell 3 _ rfl,hcell 4 _ rfl,hcell 5 _ rfl,hcell 6 _ rfl⟩
theorem stone_at {md:ModelD} {v:ModelV} {w:World} (h:ModelM false (From 0) w md v) {m:Nat} (hm:m<md.stones.length):∃b off,v.a4=some ⟨b,off,none⟩/\b<w.heap.size/\∃d1 e1 d2 e2,
  Mem false (From 0) w (senD md.stones[m].done) (.slice d1 md.stones[m].done.length e1)/\Mem false (From 0) w (senD md.stones[m].undo) (.slice d2 md.stones[m].undo.length e2) /\
  w.cell? ⟨b,off+m*3,none⟩=some (.string md.stones[m].name)/\w.cell? ⟨b,off+m*3+1,none⟩=some (.slice d1 md.stones[m].done.length e1)/\w.cell? ⟨b,off+m*3+2,none⟩=some (.slice d2 md.stones[m].undo.length e2):=by
 obtain ⟨_,_,b,off,hv,-,hC⟩:=rec_open h.stones
 injection hv with e1 e2 e3
 subst e1 e3
 obtain ⟨ha,-,hbl⟩:=hC.at0 (by omega)
 obtain ⟨us,hus,hcell⟩:=hC.row m hm
 obtain ⟨d1,e1,d2,e2,hu,m1,m2⟩:=StoneD.cells hus
 subst hu
 exact ⟨b,off,ha,hbl,d1,e1,d2,e2,m1,m2,hcell 0 _ rfl,hcell 1 _ rfl,hcell 2 _ rfl⟩
theorem nz_ne {s:ByteArray}:(s.toList != [])=decide (s.size≠0)/\(s.toList==[])=decide (s.size=0):=by
 rcases nz_list (s:=s) with ⟨h1,h2⟩ | ⟨h1,h2⟩
 ·rw [bne,h2,h1];exact ⟨rfl,rfl⟩
 have:s.size≠0:=fun h=>h1 (size_zero.1 h)
 rw [bne,h2];simp [this]
theorem nz_emp {s:ByteArray}:s.toList.isEmpty=decide (s.size=0):=by
 rw [<-nz_ne.2]
 cases s.toList<;>rfl
theorem eventB_yes {md:ModelD} {s:ByteArray} (h:hasB md.events s=true):eventB md s=true:=by unfold eventB;rw [h];rfl
theorem eventB_neg {md:ModelD} {s:ByteArray} (h:hasB md.events s=false) (h1:stageIx md s<0):eventB md s=false:=by
 unfold eventB;rw [h];simp;omega
theorem eventB_at {md:ModelD} {s:ByteArray} {m:Nat} (h:hasB md.events s=false) (h1:stageIx md s=m) (hm:m<md.stages.length):eventB md s=decide (md.stages[m].role.size≠0):=by
 unfold eventB
 have hg:md.stages[m]? = some md.stages[m]:=List.getElem?_eq_getElem hm
 have h2:(0:Int)<=(m:Int):=by omega
 simp only [h,h1,Int.toNat_natCast,hg,Bool.false_or,h2,decide_true,Bool.true_and]
theorem events_walk (md:ModelD) (v:ModelV) (s:ByteArray) (w:World) (hz:md.Sml) (hM:ModelM false (From 0) w md v) :
  Calls Tryz.prog 89 #[.agg (v.cs md).toArray,.string s] w (fun e w'=>e=.returned (.bool (eventB md s))/\Below w.heap.size w w'):=by
 obtain ⟨q,hq⟩:∃q,eventB md s=q:=⟨_,rfl⟩
 rw [hq]
 obtain ⟨w1,hw1⟩:∃w1,w.alloc (.cells (v.cs md).toArray 31)=w1:=⟨_,rfl⟩
 have hb1:Below w.heap.size w w1:=hw1▸(Below.refl _ _).alloc (Nat.le_refl _) _
 have hx1:Arr w1 w.heap.size 31 (v.cs md):=hw1▸Arr.new w (v.cs md) _
 have HS:=hid (modelStage md v s w1 hz.stages (hM.grow hb1))
 have HC:=hid (fun W (hb:Below w.heap.size w W)=>inStrs W.heap.size _ md.events s W (by have:=hz.events;omega) (strD_strs (hM.grow hb).events))
 have HX:=hid hx1
 have HB1:=hid hb1
 have HW1:=hid hw1
 have HM:=hid hM
 have HQ:=hid hq
 obtain ⟨i,hi⟩:∃i,stageIx md s=i:=⟨_,rfl⟩
 have hile:=stageIx_le md s
 rw [hi] at HS hile
 have HI:=hid hi
 obtain ⟨h,hh⟩:∃h,hasB md.events s=h:=⟨_,rfl⟩
 rw [hh] at HC
 have HH:=hid hh
 obtain ⟨y0,y1,y2,y3,y4,y5⟩:=box6 hx1 (Below.refl _ _)
 clear hq hM hb1 hx1 hw1 hi hh hz
 go_enter Tryz.func89,Tryz.ntmps89
 go_upto_region 1 with fail
 rw [HW1.out]
 go_wp2_with fail
 refine HS.out.mono ?_
 rintro e w2 ⟨rfl,hb2⟩
 have HB2:=hid (HB1.out.trans (hb2.mono HB1.out.size))
 clear y0 y1 y2 y3 y4 y5 HS
 obtain ⟨y0,y1,y2,y3,y4,y5⟩:=box6 HX.out hb2
 have HC2:=hid (HC.out w2 HB2.out)
 clear hb2 HC
 cases h with
 | true =>
  have HQ2:Hid (true=q):=by show _=_;rw [<-HQ.out,eventB_yes HH.out]
  go_wp2_with fail
  refine HC2.out.mono ?_
  rintro e w3 ⟨rfl,rfl⟩
  go_wp2_with fail
  go_ret
  exact ⟨ret_bool HQ2.out,HB2.out⟩
 | false =>
  by_cases hneg:i<0
  ·have HQ2:Hid (false=q):=by show _=_;rw [<-HQ.out,eventB_neg HH.out (by rw [HI.out];exact hneg)]
   have i1:¬(0:Int)<=i:=by omega
   go_wp2_with fail
   refine HC2.out.mono ?_
   rintro e w3 ⟨rfl,rfl⟩
   go_wp2_with fail
   go_ret
   exact ⟨ret_bool HQ2.out,HB2.out⟩
  obtain ⟨m,rfl⟩:∃m:Nat,i=m:=⟨i.toNat,by omega⟩
  have hml:m<md.stages.length:=by omega
  have i1:(0:Int)<=(m:Int):=by omega
  have i2:(m:Int)<(md.stages.length:Int):=by omega
  obtain ⟨b,off,ha,hbl,d1,e1,d2,e2,-,-,-,-,-,-,c4,-,-⟩:=stage_at (HM.out.grow HB2.out) hml
  have HQ2:Hid ((!md.stages[m].role.toList.isEmpty)=q):=by show _=_;rw [<-HQ.out,eventB_at HH.out HI.out hml,nz_emp];simp
  rw [ha] at y3
  obtain ⟨x,hx⟩:∃x,md.stages[m].role=x:=⟨_,rfl⟩
  rw [hx] at c4 HQ2
  clear ha hx HQ HI HH HM
  go_wp2_with fail
  refine HC2.out.mono ?_
  rintro e w3 ⟨rfl,rfl⟩
  go_wp2_with fail
  go_ret
  exact ⟨ret_bool HQ2.out,HB2.out⟩
def thereB (md:ModelD) (s:SentryD):Bool:=if s.on=0 then decide (s.name.size=0) else if s.on=1 then eventB md s.name else if s.on=2\/s.on=3 then decide (0<=stageIx md s.name) else if s.on=4\/s.on=5 then decide (0<=stoneIx md s.name) else false
theorem sentryB_eq (md:ModelD) (s:SentryD):sentryB md s=(thereB md s&&truthB md s.cond):=rfl
theorem sentry_walk (md:ModelD) (v:ModelV) (s:SentryD) (w:World) (hz:md.Sml) (hM:ModelM false (From 0) w md v) (hv:GRng w) :
  Calls Tryz.prog 48 #[.agg (v.cs md).toArray,senV s] w (fun e w'=>e=.returned (.bool (sentryB md s))/\Below w.heap.size w w'):=by
 obtain ⟨on,name,cond⟩:=s
 rw [sentryB_eq]
 obtain ⟨w0,hw0⟩:∃w0,w.alloc (.cells (v.cs md).toArray 31)=w0:=⟨_,rfl⟩
 obtain ⟨w1,hw1⟩:∃w1,w0.alloc (.cells #[.int .u8 on,.string name,.string cond] 35)=w1:=⟨_,rfl⟩
 have hz0:w0.heap.size=w.heap.size+1:=by rw [<-hw0,size_alloc]
 have hb0:Below w.heap.size w w0:=hw0▸(Below.refl _ _).alloc (Nat.le_refl _) _
 have hb01:Below w0.heap.size w0 w1:=hw1▸(Below.refl _ _).alloc (Nat.le_refl _) _
 have hb1:Below w.heap.size w w1:=hb0.trans (hb01.mono hb0.size)
 have hX:Arr w1 w.heap.size 31 (v.cs md):=hw1▸(show Arr w0 _ _ _ from hw0▸Arr.new w _ _).alloc _
 have hS:Arr w1 (w.heap.size+1) 35 [.int .u8 on,.string name,.string cond]:=by
  have:=Arr.new w0 [.int .u8 on,.string name,.string cond] 35
  rw [hz0] at this
  exact hw1▸this
 have HW:Hid ((w.alloc (.cells (v.cs md).toArray 31)).alloc (.cells #[.int .u8 on,.string name,.string cond] 35)=w1):=by
  show _=_
  rw [hw0];exact hw1
 have box3:∀W,Below w1.heap.size w1 W->W.cell? ⟨w.heap.size+1,0,none⟩=some (.int .u8 on)/\W.cell? ⟨w.heap.size+1,1,none⟩=some (.string name)/\W.cell? ⟨w.heap.size+1,2,none⟩=some (.string cond):=fun W hb =>
  ⟨cellBelow2 hb (hS.cell (j:=0) (by simp)),cellBelow2 hb (hS.cell (j:=1) (by simp)),cellBelow2 hb (hS.cell (j:=2) (by simp))⟩
 have HT:=hid (fun W (hb:Below w1.heap.size w1 W)=>truth_walk md v cond W hz (hM.grow (hb1.trans (hb.mono hb1.size))) (hv.below (hb1.trans (hb.mono hb1.size))))
 have HE:=hid (events_walk md v name w1 hz (hM.grow hb1))
 have HSt:=hid (modelStage md v name w1 hz.stages (hM.grow hb1))
 have HSo:=hid (modelStone md v name w1 hz.stones (hM.grow hb1))
 have HX:=hid hX
 have HB1:=hid hb1
 have HB3:=hid box3
 obtain ⟨y0,y1,y2,y3,y4,y5⟩:=box6 hX (Below.refl _ _)
 obtain ⟨z0,z1,z2⟩:=box3 w1 (Below.refl _ _)
 obtain ⟨T,hT⟩:∃T,truthB md cond=T:=⟨_,rfl⟩
 simp only [hT] at HT ⊢
 obtain ⟨q,hq⟩:∃q,thereB md ⟨on,name,cond⟩=q:=⟨_,rfl⟩
 rw [hq]
 have HQ:=hid hq
 clear hM hv hz hb0 hb01 hb1 hX hS hw0 hw1 hz0 hT hq box3
 simp only [senV]
 have:on=0\/on=1\/on=2\/on=3\/on=4\/on=5\/(on≠0/\on≠1/\on≠2/\on≠3/\on≠4/\on≠5):=by omega
 rcases this with rfl | rfl | rfl | rfl | rfl | rfl | ⟨n0,n1,n2,n3,n4,n5⟩
 ·rcases nz_list (s:=name) with ⟨h1,h2⟩ | ⟨h1,h2⟩
  ·have HQ2:Hid (q=true):=by
    show _=_
    rw [<-HQ.out]
    simp only [thereB,if_true,size_zero.2 h1,decide_true]
   clear HQ h1 HE HSt HSo
   go_enter Tryz.func48,Tryz.ntmps48
   go_upto_region 1 with fail
   rw [HW.out]
   go_wp2_with fail
   refine (HT.out _ (Below.refl _ _)).mono ?_
   rintro e w4 ⟨rfl,hb4⟩
   have HB4:=hid (HB1.out.trans (hb4.mono HB1.out.size))
   clear hb4 HT
   go_wp2_with fail
   go_ret
   exact ⟨ret_bool (by rw [HQ2.out];simp),HB4.out⟩
  have HQ2:Hid (q=false):=by
   show _=_
   rw [<-HQ.out]
   have hz0:¬name.size=0:=fun h=>h1 (size_zero.1 h)
   simp only [thereB,if_true,hz0,decide_false]
  clear HQ h1 HE HSt HSo
  go_enter Tryz.func48,Tryz.ntmps48
  go_upto_region 1 with fail
  rw [HW.out]
  go_wp2_with fail
  go_ret
  exact ⟨ret_bool (by rw [HQ2.out];simp),HB1.out⟩
 ·obtain ⟨z,hzq⟩:∃z,eventB md name=z:=⟨_,rfl⟩
  have HQ1:Hid (q=z):=by
   show _=_
   rw [<-HQ.out,<-hzq]
   simp [thereB]
  rw [hzq] at HE
  clear HQ hzq HSt HSo
  go_enter Tryz.func48,Tryz.ntmps48
  go_upto_region 1 with fail
  rw [HW.out]
  go_wp2_with fail
  refine HE.out.mono ?_
  rintro e w2 ⟨rfl,hb2⟩
  have HB2:=hid (HB1.out.trans (hb2.mono HB1.out.size))
  have HB12:=hid hb2
  clear y0 y1 y2 y3 y4 y5 z0 z1 z2 HE
  obtain ⟨y0,y1,y2,y3,y4,y5⟩:=box6 HX.out hb2
  obtain ⟨z0,z1,z2⟩:=HB3.out w2 hb2
  clear hb2
  cases z with
  | true =>
   have HQ2:Hid (q=true):=HQ1.out
   go_wp2_with fail
   refine (HT.out _ HB12.out).mono ?_
   rintro e w4 ⟨rfl,hb4⟩
   have HB4:=hid (HB2.out.trans (hb4.mono HB2.out.size))
   clear hb4 HT
   go_wp2_with fail
   go_ret
   exact ⟨ret_bool (by rw [HQ2.out];simp),HB4.out⟩
  | false =>
   have HQ2:Hid (q=false):=HQ1.out
   go_wp2_with fail
   go_ret
   exact ⟨ret_bool (by rw [HQ2.out];simp),HB2.out⟩
 ·obtain ⟨z,hzq⟩:∃z,stageIx md name=z:=⟨_,rfl⟩
  have HQ1:Hid (q=decide (0<=z)):=by
   show _=_
   rw [<-HQ.out,<-hzq]
   simp [thereB]
  rw [hzq] at HSt
  clear HQ hzq HE HSo
  go_enter Tryz.func48,Tryz.ntmps48
  go_upto_region 1 with fail
  rw [HW.out]
  go_wp2_with fail
  refine HSt.out.mono ?_
  rintro e w2 ⟨rfl,hb2⟩
  have HB2:=hid (HB1.out.trans (hb2.mono HB1.out.size))
  have HB12:=hid hb2
  clear y0 y1 y2 y3 y4 y5 z0 z1 z2 HSt
  obtain ⟨y0,y1,y2,y3,y4,y5⟩:=box6 HX.out hb2
  obtain ⟨z0,z1,z2⟩:=HB3.out w2 hb2
  clear hb2
  by_cases hz0:0<=z
  ·have HQ2:Hid (q=true):=by show _=_;rw [HQ1.out];simp [hz0]
   go_wp2_with fail
   refine (HT.out _ HB12.out).mono ?_
   rintro e w4 ⟨rfl,hb4⟩
   have HB4:=hid (HB2.out.trans (hb4.mono HB2.out.size))
   clear hb4 HT
   go_wp2_with fail
   go_ret
   exact ⟨ret_bool (by rw [HQ2.out];simp),HB4.out⟩
  have HQ2:Hid (q=false):=by show _=_;rw [HQ1.out];simp [hz0]
  go_wp2_with fail
  go_ret
  exact ⟨ret_bool (by rw [HQ2.out];simp),HB2.out⟩
 ·obtain ⟨z,hzq⟩:∃z,stageIx md name=z:=⟨_,rfl⟩
  have HQ1:Hid (q=decide (0<=z)):=by
   show _=_
   rw [<-HQ.out,<-hzq]
   simp [thereB]
  rw [hzq] at HSt
  clear HQ hzq HE HSo
  go_enter Tryz.func48,Tryz.ntmps48
  go_upto_region 1 with fail
  rw [HW.out]
  go_wp2_with fail
  refine HSt.out.mono ?_
  rintro e w2 ⟨rfl,hb2⟩
  have HB2:=hid (HB1.out.trans (hb2.mono HB1.out.size))
  have HB12:=hid hb2
  clear y0 y1 y2 y3 y4 y5 z0 z1 z2 HSt
  obtain ⟨y0,y1,y2,y3,y4,y5⟩:=box6 HX.out hb2
  obtain ⟨z0,z1,z2⟩:=HB3.out w2 hb2
  clear hb2
  by_cases hz0:0<=z
  ·have HQ2:Hid (q=true):=by show _=_;rw [HQ1.out];simp [hz0]
   go_wp2_with fail
   refine (HT.out _ HB12.out).mono ?_
   rintro e w4 ⟨rfl,hb4⟩
   have HB4:=hid (HB2.out.trans (hb4.mono HB2.out.size))
   clear hb4 HT
   go_wp2_with fail
   go_ret
   exact ⟨ret_bool (by rw [HQ2.out];simp),HB4.out⟩
  have HQ2:Hid (q=false):=by show _=_;rw [HQ1.out];simp [hz0]
  go_wp2_with fail
  go_ret
  exact ⟨ret_bool (by rw [HQ2.out];simp),HB2.out⟩
 ·obtain ⟨z,hzq⟩:∃z,stoneIx md name=z:=⟨_,rfl⟩
  have HQ1:Hid (q=decide (0<=z)):=by
   show _=_
   rw [<-HQ.out,<-hzq]
   simp [thereB]
  rw [hzq] at HSo
  clear HQ hzq HE HSt
  go_enter Tryz.func48,Tryz.ntmps48
  go_upto_region 1 with fail
  rw [HW.out]
  go_wp2_with fail
  refine HSo.out.mono ?_
  rintro e w2 ⟨rfl,hb2⟩
  have HB2:=hid (HB1.out.trans (hb2.mono HB1.out.size))
  have HB12:=hid hb2
  clear y0 y1 y2 y3 y4 y5 z0 z1 z2 HSo
  obtain ⟨y0,y1,y2,y3,y4,y5⟩:=box6 HX.out hb2
  obtain ⟨z0,z1,z2⟩:=HB3.out w2 hb2
  clear hb2
  by_cases hz0:0<=z
  ·have HQ2:Hid (q=true):=by show _=_;rw [HQ1.out];simp [hz0]
   go_wp2_with fail
   refine (HT.out _ HB12.out).mono ?_
   rintro e w4 ⟨rfl,hb4⟩
   have HB4:=hid (HB2.out.trans (hb4.mono HB2.out.size))
   clear hb4 HT
   go_wp2_with fail
   go_ret
   exact ⟨ret_bool (by rw [HQ2.out];simp),HB4.out⟩
  have HQ2:Hid (q=false):=by show _=_;rw [HQ1.out];simp [hz0]
  go_wp2_with fail
  go_ret
  exact ⟨ret_bool (by rw [HQ2.out];simp),HB2.out⟩
 ·obtain ⟨z,hzq⟩:∃z,stoneIx md name=z:=⟨_,rfl⟩
  have HQ1:Hid (q=decide (0<=z)):=by
   show _=_
   rw [<-HQ.out,<-hzq]
   simp [thereB]
  rw [hzq] at HSo
  clear HQ hzq HE HSt
  go_enter Tryz.func48,Tryz.ntmps48
  go_upto_region 1 with fail
  rw [HW.out]
  go_wp2_with fail
  refine HSo.out.mono ?_
  rintro e w2 ⟨rfl,hb2⟩
  have HB2:=hid (HB1.out.trans (hb2.mono HB1.out.size))
  have HB12:=hid hb2
  clear y0 y1 y2 y3 y4 y5 z0 z1 z2 HSo
  obtain ⟨y0,y1,y2,y3,y4,y5⟩:=box6 HX.out hb2
  obtain ⟨z0,z1,z2⟩:=HB3.out w2 hb2
  clear hb2
  by_cases hz0:0<=z
  ·have HQ2:Hid (q=true):=by show _=_;rw [HQ1.out];simp [hz0]
   go_wp2_with fail
   refine (HT.out _ HB12.out).mono ?_
   rintro e w4 ⟨rfl,hb4⟩
   have HB4:=hid (HB2.out.trans (hb4.mono HB2.out.size))
   clear hb4 HT
   go_wp2_with fail
   go_ret
   exact ⟨ret_bool (by rw [HQ2.out];simp),HB4.out⟩
  have HQ2:Hid (q=false):=by show _=_;rw [HQ1.out];simp [hz0]
  go_wp2_with fail
  go_ret
  exact ⟨ret_bool (by rw [HQ2.out];simp),HB2.out⟩
 have HQ2:Hid (q=false):=by
  show _=_
  rw [<-HQ.out]
  simp [thereB,n0,n1,n2,n3,n4,n5]
 have e0:(on==0)=false:=by simpa using n0
 have e1:(on==1)=false:=by simpa using n1
 have e2:(on==2)=false:=by simpa using n2
 have e3:(on==3)=false:=by simpa using n3
 have e4:(on==4)=false:=by simpa using n4
 have e5:(on==5)=false:=by simpa using n5
 clear HQ HE HSt HSo n0 n1 n2 n3 n4 n5
 go_enter Tryz.func48,Tryz.ntmps48
 go_upto_region 1 with fail
 rw [HW.out]
 go_wp2_with fail
 go_ret
 exact ⟨ret_bool (by rw [HQ2.out];simp),HB1.out⟩
end Go.Proofs.YtfbbkmdhnkmonaaGreatDoor
namespace Go.Proofs.YtfbbkmdhnkmonaaGreatDoor
open Go.RowKit
def cmpI (x y:Int):Int:=if x<y then -1 else if y<x then 1 else 0
def cmpL:List Int->List Int->Int
 | x :: xs,y :: ys=>if cmpI x y≠0 then cmpI x y else cmpL xs ys
 | _,_=>0
theorem nanI_walk (x:Int) (w:World):Calls Tryz.prog 111 #[.int .i64 x] w fun e w'=>e=.returned (.bool false)/\w'=w:=by
 have h:(x != x)=false:=by simp
 go_enter Tryz.func111,Tryz.ntmps111
 go_wp2_with fail
 go_ret
 exact ⟨rfl,rfl⟩
theorem cmpI_walk (x y:Int) (w:World):Calls Tryz.prog 72 #[.int .i64 x,.int .i64 y] w fun e w'=>e=.returned (.int .i64 (cmpI x y))/\w'=w:=by
 have c1:=nanI_walk x w
 have c2:=nanI_walk y w
 by_cases h1:x<y
 ·rw [show cmpI x y = -1 from if_pos h1]
  go_enter Tryz.func72,Tryz.ntmps72
  go_wp2_with (first | (go_at_call 111;refine c1.mono ?_;rintro e w' ⟨rfl,rfl⟩) | (go_at_call 111;refine c2.mono ?_;rintro e w' ⟨rfl,rfl⟩))
  go_ret
  exact ⟨rfl,rfl⟩
 by_cases h2:y<x
 ·rw [show cmpI x y=1 by unfold cmpI;rw [if_neg h1,if_pos h2]]
  go_enter Tryz.func72,Tryz.ntmps72
  go_wp2_with (first | (go_at_call 111;refine c1.mono ?_;rintro e w' ⟨rfl,rfl⟩) | (go_at_call 111;refine c2.mono ?_;rintro e w' ⟨rfl,rfl⟩))
  go_ret
  exact ⟨rfl,rfl⟩
 rw [show cmpI x y=0 by unfold cmpI;rw [if_neg h1,if_neg h2]]
 go_enter Tryz.func72,Tryz.ntmps72
 go_wp2_with (first | (go_at_call 111;refine c1.mono ?_;rintro e w' ⟨rfl,rfl⟩) | (go_at_call 111;refine c2.mono ?_;rintro e w' ⟨rfl,rfl⟩))
 go_ret
 exact ⟨rfl,rfl⟩
theorem cmpL_drop {xs ys:List Int} {m:Nat} (h1:m<xs.length) (h2:m<ys.length):cmpL (xs.drop m) (ys.drop m)=if cmpI xs[m] ys[m]≠0 then cmpI xs[m] ys[m] else cmpL (xs.drop (m+1)) (ys.drop (m+1)):=by
 rw [List.drop_eq_getElem_cons h1,List.drop_eq_getElem_cons h2]
 rfl
theorem compare_walk (xs ys:List Int) (n b o c b2 o2 c2:Nat) (w:World) (hx:xs.length=n) (hy:ys.length=n) (hn:n<=1000) (h1:∀j (h:j<xs.length),w.cell? ⟨b,o+j,none⟩=some (.int .i64 xs[j])) (h2:∀j (h:j<ys.length),w.cell? ⟨b2,o2+j,none⟩=some (.int .i64 ys[j])) :
  Calls Tryz.prog 32 #[.slice (some ⟨b,o,none⟩) n c,.slice (some ⟨b2,o2,none⟩) n c2] w fun e w'=>e=.returned (.int .i64 (cmpL xs ys))/\w'=w:=by
 have H1:=hid h1
 have H2:=hid h2
 have HX:=hid hx
 have HY:=hid hy
 obtain ⟨q,hq⟩:∃q,cmpL xs ys=q:=⟨_,rfl⟩
 rw [hq]
 have HQ:=hid hq
 clear h1 h2 hx hy hq
 go_enter Tryz.func32,Tryz.ntmps32
 go_wp2_with fail
 go_loopw [11] (fun i wr=>∃m:Nat,m<=n/\i=.int .i64 (m:Int)/\wr=w/\Hid (cmpL (xs.drop m) (ys.drop m)=q)) (fun i _=>n-(intOf i).toNat)
 case atStart=>exact ⟨0,Nat.zero_le _,rfl,rfl,HQ.out⟩
 obtain ⟨m,hmn,rfl,rfl,HM⟩:=hrel
 by_cases hlt:m<n
 ·have i1:(m:Int)<(n:Int):=by omega
  have i2:(0:Int)<=(m:Int):=by omega
  have i3:¬(n:Int)<=(m:Int):=by omega
  have HML:=hid hlt
  have hmx:m<xs.length:=by rw [HX.out];exact hlt
  have hmy:m<ys.length:=by rw [HY.out];exact hlt
  have x0:=H1.out m hmx
  have z0:=H2.out m hmy
  have hd:=HM.out
  rw [cmpL_drop hmx hmy] at hd
  obtain ⟨x,hxe⟩:∃x,xs[m]=x:=⟨_,rfl⟩
  obtain ⟨z,hze⟩:∃z,ys[m]=z:=⟨_,rfl⟩
  rw [hxe,hze] at hd
  rw [hxe] at x0
  rw [hze] at z0
  have hC:=cmpI_walk x z wr
  obtain ⟨r,hr⟩:∃r,cmpI x z=r:=⟨_,rfl⟩
  rw [hr] at hd hC
  have HC:=hid hC
  clear hC hr hxe hze HM
  by_cases h0:r=0
  ·subst h0
   rw [if_neg (by simp)] at hd
   have HD:=hid hd
   have wr1:IntKind.i64.wrap ((m:Int)+1)=(m:Int)+1:=wrap_i64 (by omega) (by omega)
   clear hd
   go_wp2_with fail
   refine HC.out.mono ?_
   rintro e w2 ⟨rfl,rfl⟩
   go_wp2_with fail
   refine ⟨⟨m+1,by have:=HML.out;omega,by go_num,by first | trivial | rfl,HD⟩,by simp only [intOf];have:=HML.out;omega⟩
  rw [if_pos h0] at hd
  have e1:(r != 0)=true:=by simpa using h0
  have HD:=hid hd
  clear hd h0
  go_wp2_with fail
  refine HC.out.mono ?_
  rintro e w2 ⟨rfl,rfl⟩
  go_wp2_with fail
  go_ret
  exact ⟨ret_int HD.out,rfl⟩
 obtain rfl:m=n:=by omega
 have i1:¬(m:Int)<(m:Int):=by omega
 have HD:Hid (0=q):=by
  show _=_
  rw [<-HM.out,List.drop_of_length_le (by rw [HX.out];exact Nat.le_refl _)];rfl
 go_wp2_with fail
 go_ret
 exact ⟨ret_int HD.out,rfl⟩
def cfP (a b:Pl):Int:=cmpL [a.1,a.2.1,a.2.2] [b.1,b.2.1,b.2.2]
theorem cfP_lt (a b:Pl):cfP a b<0↔plLt a b:=by
 obtain ⟨a1,a2,a3⟩:=a
 obtain ⟨b1,b2,b3⟩:=b
 simp only [cfP,cmpL,plLt,cmpI]
 repeat' split
 all_goals omega
open Go.Shelf Go.Lib Go.Sort in
theorem byPlace_walk (x y:Pl) (W:World):Calls Tryz.prog 31 #[.agg (plC x).toArray,.agg (plC y).toArray] W fun e w'=>e=.returned (.int .i64 (cfP x y))/\∃q os',w'=grow (W.drewN q) os':=by
 obtain ⟨x1,x2,x3⟩:=x
 obtain ⟨y1,y2,y3⟩:=y
 obtain ⟨w2,hw2⟩:∃w2,(W.alloc (.cells #[.int .i64 x1,.int .i64 x2,.int .i64 x3] 33)).alloc (.cells #[.int .i64 y1,.int .i64 y2,.int .i64 y3] 33)=w2:=⟨_,rfl⟩
 have hx:Arr w2 W.heap.size 33 [.int .i64 x1,.int .i64 x2,.int .i64 x3]:=hw2▸(Arr.new W _ _).alloc _
 have hy:Arr w2 (W.heap.size+1) 33 [.int .i64 y1,.int .i64 y2,.int .i64 y3]:=by
  have:=Arr.new (W.alloc (.cells #[.int .i64 x1,.int .i64 x2,.int .i64 x3] 33)) [.int .i64 y1,.int .i64 y2,.int .i64 y3] 33
  rw [size_alloc] at this
  exact hw2▸this
 have x0:=hx.cell (j:=0) (by simp)
 have x1':=hx.cell (j:=1) (by simp)
 have x2':=hx.cell (j:=2) (by simp)
 have y0:=hy.cell (j:=0) (by simp)
 have y1':=hy.cell (j:=1) (by simp)
 have y2':=hy.cell (j:=2) (by simp)
 have HC:=hid (fun n=>compare_walk [x1,x2,x3] [y1,y2,y3] 3 W.heap.size 0 3 (W.heap.size+1) 0 3 (w2.drewN n) rfl rfl (by omega) (fun j h=>by
  rw [World.cell?_drewN,Nat.zero_add]
  match j,h with
  | 0,_=>exact x0
  | 1,_=>exact x1'
  | 2,_=>exact x2') (fun j h=>by
  rw [World.cell?_drewN,Nat.zero_add]
  match j,h with
  | 0,_=>exact y0
  | 1,_=>exact y1'
  | 2,_=>exact y2'))
 obtain ⟨r,hr⟩:∃r,cfP (x1,x2,x3) (y1,y2,y3)=r:=⟨_,rfl⟩
 have hr':cmpL [x1,x2,x3] [y1,y2,y3]=r:=hr
 rw [hr'] at HC
 rw [hr]
 have HW2:=hid hw2
 clear hr hr' hx hy x0 x1' x2' y0 y1' y2' hw2
 simp only [plC]
 go_enter Tryz.func31,Tryz.ntmps31
 go_upto_region 1 with fail
 rw [HW2.out]
 go_quiet ((go_at_call 32;exact (HC.out _).mono (fun _ _ h=>⟨h.1,_,h.2⟩)))
 go_wp2_with fail
 go_ret
 have h:∀n,∃os',w2.drewN n=grow (W.drewN n) os':=fun n=>⟨_,by rw [<-HW2.out,alloc_eq_grow,alloc_eq_grow,grow_grow];rfl⟩
 exact ⟨rfl,_,h _⟩
end Go.Proofs.YtfbbkmdhnkmonaaGreatDoor
namespace Go.Proofs
open Go.Shelf
def Tryz.sortPl_ren:Go.Shelf.Ren:=⟨fun | 6=>30 | 15=>71 | 14=>70 | 28=>109 | 29=>110 | 20=>101 | 21=>102 | 22=>103 | 23=>104 | 24=>105 | 25=>106 | 26=>107 | 27=>108 | 46=>130 | 47=>131 | 48=>132 | 49=>133 | 50=>134 | 57=>162 | n=>n,fun | 22=>42 | 24=>33 | 25=>74 | 3=>3 | 39=>117 | 0=>0 | 53=>167 | 55=>169 | 4=>4 | 46=>160 | 45=>159 | 50=>164 | 5=>5 | 9=>9 | 66=>191 | 70=>195 | 76=>222 | 77=>223 | n=>n,fun | n=>n⟩
theorem Tryz.sortPl:Go.Proofs.SlLaysF0.n6 Tryz.prog Tryz.sortPl_ren:={
 mixed:=by kernel_rfl
 f6:=⟨Tryz.f30.name,by decide,Tryz.func30.trans (congrArg some (by kernel_rfl))⟩
 f14:=⟨Tryz.f70.name,by decide,Tryz.func70.trans (congrArg some (by kernel_rfl))⟩
 f15:=Tryz.func71.trans (congrArg some (by kernel_rfl))
 f20:=⟨Tryz.f101.name,by decide,Tryz.func101.trans (congrArg some (by kernel_rfl))⟩
 f21:=⟨Tryz.f102.name,by decide,Tryz.func102.trans (congrArg some (by kernel_rfl))⟩
 f22:=⟨Tryz.f103.name,by decide,Tryz.func103.trans (congrArg some (by kernel_rfl))⟩
 f23:=⟨Tryz.f104.name,by decide,Tryz.func104.trans (congrArg some (by kernel_rfl))⟩
 f24:=⟨Tryz.f105.name,by decide,Tryz.func105.trans (congrArg some (by kernel_rfl))⟩
 f25:=⟨Tryz.f106.name,by decide,Tryz.func106.trans (congrArg some (by kernel_rfl))⟩
 f26:=⟨Tryz.f107.name,by decide,Tryz.func107.trans (congrArg some (by kernel_rfl))⟩
 f27:=⟨Tryz.f108.name,by decide,Tryz.func108.trans (congrArg some (by kernel_rfl))⟩
 f28:=Tryz.func109.trans (congrArg some (by kernel_rfl))
 f29:=Tryz.func110.trans (congrArg some (by kernel_rfl))
 f46:=⟨Tryz.f130.name,by decide,Tryz.func130.trans (congrArg some (by kernel_rfl))⟩
 f47:=Tryz.func131.trans (congrArg some (by kernel_rfl))
 f48:=Tryz.func132.trans (congrArg some (by kernel_rfl))
 f49:=⟨Tryz.f133.name,by decide,Tryz.func133.trans (congrArg some (by kernel_rfl))⟩
 f50:=⟨Tryz.f134.name,by decide,Tryz.func134.trans (congrArg some (by kernel_rfl))⟩
 f57:=⟨Tryz.f162.name,by decide,Tryz.func162.trans (congrArg some (by kernel_rfl))⟩
 t0:=Tryz.underlying0
 a0:=Tryz.isAgg0
 z0:=Tryz.sizeOf0
 v0:=Tryz.zeroValue0
 t3:=Tryz.underlying3
 a3:=Tryz.isAgg3
 z3:=Tryz.sizeOf3
 v3:=Tryz.zeroValue3
 t4:=Tryz.underlying4
 a4:=Tryz.isAgg4
 z4:=Tryz.sizeOf4
 v4:=Tryz.zeroValue4
 t5:=Tryz.underlying5
 a5:=Tryz.isAgg5
 z5:=Tryz.sizeOf5
 v5:=Tryz.zeroValue5
 t9:=Tryz.underlying9
 a9:=Tryz.isAgg9
 z9:=Tryz.sizeOf9
 v9:=Tryz.zeroValue9
 t22:=Tryz.underlying42
 a22:=Tryz.isAgg42
 z22:=Tryz.sizeOf42
 v22:=Tryz.zeroValue42
 t25:=Tryz.underlying74
 a25:=Tryz.isAgg74
 z25:=Tryz.sizeOf74
 v25:=Tryz.zeroValue74
 t39:=Tryz.underlying117
 a39:=Tryz.isAgg117
 z39:=Tryz.sizeOf117
 v39:=Tryz.zeroValue117
 t45:=Tryz.underlying159
 a45:=Tryz.isAgg159
 z45:=Tryz.sizeOf159
 v45:=Tryz.zeroValue159
 t46:=Tryz.underlying160
 a46:=Tryz.isAgg160
 z46:=Tryz.sizeOf160
 v46:=Tryz.zeroValue160
 t50:=Tryz.underlying164
 a50:=Tryz.isAgg164
 z50:=Tryz.sizeOf164
 v50:=Tryz.zeroValue164
 t53:=Tryz.underlying167
 a53:=Tryz.isAgg167
 z53:=Tryz.sizeOf167
 v53:=Tryz.zeroValue167
 t55:=Tryz.underlying169
 a55:=Tryz.isAgg169
 z55:=Tryz.sizeOf169
 v55:=Tryz.zeroValue169
 t66:=Tryz.underlying191
 a66:=Tryz.isAgg191
 z66:=Tryz.sizeOf191
 v66:=Tryz.zeroValue191
 t70:=Tryz.underlying195
 a70:=Tryz.isAgg195
 z70:=Tryz.sizeOf195
 v70:=Tryz.zeroValue195
 t76:=Tryz.underlying222
 a76:=Tryz.isAgg222
 z76:=Tryz.sizeOf222
 v76:=Tryz.zeroValue222
 t77:=Tryz.underlying223
 a77:=Tryz.isAgg223
 z77:=Tryz.sizeOf223
 v77:=Tryz.zeroValue223 }
end Go.Proofs
namespace Go.Proofs.YtfbbkmdhnkmonaaGreatDoor
open Go.RowKit Go.Shelf Go.Lib Go.Sort
def SortEndP (base g vc:Nat) (l:List Pl) (w:World) (e:Ending) (w':World):Prop:=e=.returned (.tuple #[])/\∃l':List Pl,l'.Perm l/\(∀i j (hi:i<l'.length) (hj:j<l'.length),i<j->¬plLt l'[j] l'[i])/\Own w' base 33 3 (some ⟨g,0,none⟩) vc l.length (l'.flatMap plC)/\w.grownBy w' (some g)
theorem plC_flat_len (l:List Pl):(l.flatMap plC).length=l.length*3:=by
 induction l with
 | nil=>rfl
 | cons x l ih=>rw [List.flatMap_cons,List.length_append,ih,List.length_cons];simp [plC];omega
theorem ltOf_P (x y:Pl):ltOf cfP x y=decide (plLt x y):=by
 unfold ltOf
 rw [Bool.eq_iff_iff,decide_eq_true_eq,decide_eq_true_eq]
 exact cfP_lt x y
theorem swoP:SWO (ltOf cfP) where
 irrefl x:=by rw [ltOf_P];exact decide_eq_false (plLt_irrefl _)
 trans x y z h1 h2:=by rw [ltOf_P,decide_eq_true_eq] at *;exact plLt_trans h1 h2
 ntrans x y z h1 h2:=by
  rw [ltOf_P,decide_eq_false_iff_not] at *
  intro h
  rcases plLt_total x y with h3 | h3 | h3
  ·exact h1 h3
  ·rw [h3] at h;exact h2 h
  exact h2 (plLt_trans h3 h)
theorem flatK_P (l:List Pl):flatK plC 3 l.toArray=(l.flatMap plC).toArray:=by
 apply Array.ext (by simp only [List.size_toArray,plC_flat_len];simp)
 intro t h1 h2
 have ht:t<l.length*3:=by simpa only [List.size_toArray,plC_flat_len] using h2
 have e:=get_flatK plC 3 l.toArray t (by simpa using ht)
 have hl:t / 3<l.length:=by omega
 rw [<-getElem!_pos (flatK plC 3 l.toArray) t h1,e]
 obtain ⟨q,r,hr,rfl⟩:∃q r,r<3/\t=q*3+r:=⟨t / 3,t % 3,Nat.mod_lt _ (by omega),by omega⟩
 have hq:(q*3+r) / 3=q:=by omega
 have hm:(q*3+r) % 3=r:=by omega
 rw [hq] at hl
 have hf:=flat_at (k:=3) (l.map plC) (by intro v hv;obtain ⟨x,-,rfl⟩:=List.mem_map.1 hv;rfl) q r (by simpa using hl) hr
 rw [<-List.flatMap_def,List.getElem_map] at hf
 have hx:l.toArray[q]! = l[q]:=by rw [getElem!_pos l.toArray q (by simpa using hl)];simp
 rw [hq,hm,hx]
 have e4:some ((l.flatMap plC).toArray[q*3+r])=(plC l[q])[r]?:=by
  rw [<-hf]
  have:(l.flatMap plC).toArray[q*3+r]? = (l.flatMap plC)[q*3+r]?:=by simp
  rw [<-this];exact (Array.getElem?_eq_getElem h2).symm
 match r,hr with
 | 0,_ =>
      have e5:(plC l[q])[0]? = some (.int .i64 l[q].1):=rfl
      rw [e5] at e4;injection e4 with e4;rw [e4];rfl
 | 1,_ =>
      have e5:(plC l[q])[1]? = some (.int .i64 l[q].2.1):=rfl
      rw [e5] at e4;injection e4 with e4;rw [e4];rfl
 | 2,_ =>
      have e5:(plC l[q])[2]? = some (.int .i64 l[q].2.2):=rfl
      rw [e5] at e4;injection e4 with e4;rw [e4];rfl
theorem heap_sortedK {w:World} {g n:Nat} {os:Array Obj} {cur:Array Value} {e:TypeId} {fr:Nat×Nat} (F:Array Value) (hb:w.heap[g]? = some (.cells cur e fr)) :
  (grow (putRow id (Sort.ahead w n) g 0 F) os).heap[g]? = some (.cells (putCells id 0 F cur) e fr):=by
 have hg:g<w.heap.size:=(Array.getElem?_eq_some_iff.1 hb).1
 rw [heap_grow_old _ _ (by simpa using hg)]
 simp [putRow,mapBlock,Sort.ahead,Array.getElem?_modify,hb,onCells]
theorem grownBy_sortedK {w:World} {g n:Nat} {os:Array Obj} (F:Array Value):w.grownBy (grow (putRow id (Sort.ahead w n) g 0 F) os) (some g):=by
 refine ⟨rfl,rfl,rfl,by simp,fun k hk hne=>?_⟩
 rw [heap_grow_old _ _ (by simpa using hk)]
 have:g≠k:=fun e=>hne (by rw [e])
 simp [putRow,mapBlock,Sort.ahead,Array.getElem?_modify,this]
theorem take_putCellsK (cur F:Array Value) (h:F.size<=cur.size):(putCells id 0 F cur).toList.take F.size=F.toList:=by
 apply List.ext_getElem?
 intro j
 by_cases hj:j<F.size
 ·rw [List.getElem?_take_of_lt hj,Array.getElem?_toList]
  simp [putCells,hj,show j<cur.size by omega]
 rw [List.getElem?_take_eq_none (by omega),List.getElem?_eq_none (by simp;omega)]
theorem Own.sortedP {w:World} {base g vc n:Nat} {os:Array Obj} {E:TypeId} {l:List Pl} (h:Own w base E 3 (some ⟨g,0,none⟩) vc l.length (l.flatMap plC)) (l':List Pl) (hl:l'.length=l.length) :
  Own (grow (putRow id (Sort.ahead w n) g 0 (l'.flatMap plC).toArray) os) base E 3 (some ⟨g,0,none⟩) vc l.length (l'.flatMap plC):=by
 rcases h.block with ⟨h1,_⟩ | ⟨g',he,hb,hlt,cur,hcur,h1,h2,h3⟩
 ·cases h1
 cases he
 refine ⟨by rw [plC_flat_len,hl],.inr ⟨g,vc,_,rfl,hb,heap_sortedK _ hcur,h.cap.1,h.cap.2,by simp [putCells,h2],?_⟩⟩
 have:=take_putCellsK cur (l'.flatMap plC).toArray (by simp only [List.size_toArray,plC_flat_len,hl];exact h1)
 rw [show l.length*3=(l'.flatMap plC).toArray.size by simp only [List.size_toArray,plC_flat_len,hl],this]
instance inhPlSort:Inhabited Pl:=⟨(0,0,0)⟩
theorem sortPlaces (base g vc:Nat) (l:List Pl) (w:World) (h:Own w base 33 3 (some ⟨g,0,none⟩) vc l.length (l.flatMap plC)) (hl:l.length<=1000) :
  Calls Tryz.prog 30 #[.slice (some ⟨g,0,none⟩) l.length vc,.func (.func 31) #[] #[]] w (SortEndP base g vc l w):=by
 have eg:∀args w,(callFunc 31 args).run Tryz.prog w=.ok (.enter 31 args) w:=enters_of Tryz.func31 (by kernel_rfl) rfl
 have hH:HoldsK plC 3 w g 0 l.toArray:=by
  unfold HoldsK
  rw [flatK_P]
  intro j hj
  have hj':j<(l.flatMap plC).length:=by simpa using hj
  have hjl:0<l.length*3:=by rw [plC_flat_len] at hj';omega
  obtain ⟨g',he,-,-,hc,hf⟩:=h.cell hjl
  cases he
  refine ⟨?_,by rw [Nat.zero_add];exact hf j⟩
  rw [Nat.zero_add,getElem!_pos (l.flatMap plC).toArray j hj]
  exact hc j _ (by simp [List.getElem?_eq_getElem hj'])
 have hcon:=AnyQ.slices_SortFunc Tryz.sortPl 3 Tryz.isAgg33 Tryz.sizeOf33 plC (fun _=>rfl) (fun x v hv=>by
  simp only [plC,List.mem_cons,List.not_mem_nil,or_false] at hv
  rcases hv with rfl | rfl | rfl<;>rfl) cfP swoP 31 #[] g 0 vc l.toArray w eg (fun m os dk _ x y=>byPlace_walk x y _) hH (h.lt rfl).2 (by simp;omega)
 refine Calls.mono (R:=_) hcon ?_
 rintro e w' ⟨rfl,d',n,os,hp,hs,rfl⟩
 have hd:d'.size=l.length:=by simpa using hp.1
 obtain ⟨l',rfl⟩:∃l':List Pl,d'=l'.toArray:=⟨d'.toList,by simp⟩
 have hl':l'.length=l.length:=by simpa using hd
 refine ⟨rfl,l',?_,?_,?_,?_⟩
 ·have h5:=hp.2.2
  have h6:(List.take l.length l').Perm l:=by simpa using h5
  rwa [List.take_of_length_le (by omega)] at h6
 ·intro i j hi hj hij
  have:=hs i j (Nat.zero_le _) hij (by simpa [<-hl'] using hj)
  rw [ltOf_P,decide_eq_false_iff_not] at this
  simpa [hi,hj] using this
 ·unfold sortWorldK putRowK
  rw [flatK_P]
  exact h.sortedP l' hl'
 unfold sortWorldK putRowK
 exact grownBy_sortedK _
end Go.Proofs.YtfbbkmdhnkmonaaGreatDoor
namespace Go.Proofs.YtfbbkmdhnkmonaaGreatDoor
open Go.RowKit
def senP (md:ModelD) (p:Pl):Option Value:=(senAt md p).map senV
theorem puts_sen {md:ModelD} {k n:Int} {l:List SentryD} (h:senL md k n=l) (p:Pl):putsAt k n l p=if p.1=k/\p.2.1=n then senP md p else none:=by
 obtain ⟨a,b,c⟩:=p
 simp only [putsAt,senP,senAt]
 by_cases h1:a=k/\b=n
 ·obtain ⟨rfl,rfl⟩:=h1
  rw [h]
  by_cases h2:c<0
  ·simp [h2,show ¬(0:Int)<=c by omega]
  simp [h2,show (0:Int)<=c by omega]
 rw [if_neg h1,if_neg (fun h2=>h1 ⟨h2.1,h2.2.1⟩)]
def MapTo (md:ModelD) (S:Pl->Bool) (W:World) (M:Nat):Prop:=∃ents,KM.MapIs plV okPl W M ents/\∀p,KM.getM ents p=if S p=true then senP md p else none
theorem PutEnd.to {md:ModelD} {k n:Int} {l:List SentryD} {M:Nat} {ents:KM.Ents Pl} {w w':World} {e:Ending} {S S':Pl->Bool} (h:PutEnd k n l M ents w e w') (hs:∀p,KM.getM ents p=if S p=true then senP md p else none) (hl:senL md k n=l)
  (hS:∀p,S' p=(decide (p.1=k/\p.2.1=n)||S p)):e=.returned (.tuple #[])/\MapTo md S' w' M/\w.grownBy w' (some M):=by
 obtain ⟨he,ents',h1,h2,h3⟩:=h
 refine ⟨he,⟨ents',h1,fun p=>?_⟩,h2⟩
 rw [h3,puts_sen hl,hs,hS]
 by_cases hp:p.1=k/\p.2.1=n
 ·rw [if_pos hp,decide_eq_true hp,Bool.true_or,if_pos rfl]
  cases hsp:senP md p with
  | some u=>rfl
  | none=>simp
 rw [if_neg hp,decide_eq_false hp,Bool.false_or];rfl
def S1 (n:Nat) (p:Pl):Bool:=decide ((p.1=1\/p.1=2)/\0<=p.2.1/\p.2.1<n)
def S1h (n:Nat) (p:Pl):Bool:=decide (p.1=1/\p.2.1=n)||S1 n p
def S2 (a n:Nat) (p:Pl):Bool:=decide ((p.1=3\/p.1=4)/\0<=p.2.1/\p.2.1<n)||S1 a p
def S2h (a n:Nat) (p:Pl):Bool:=decide (p.1=3/\p.2.1=n)||S2 a n p
theorem S1_next (n:Nat) (p:Pl):S1 (n+1) p=(decide (p.1=2/\p.2.1=n)||S1h n p):=by
 rw [Bool.eq_iff_iff]
 simp only [S1,S1h,Bool.or_eq_true,decide_eq_true_eq];omega
theorem S2_next (a n:Nat) (p:Pl):S2 a (n+1) p=(decide (p.1=4/\p.2.1=n)||S2h a n p):=by
 rw [Bool.eq_iff_iff]
 simp only [S2,S2h,S1,Bool.or_eq_true,decide_eq_true_eq];omega
theorem S2_zero (a:Nat) (p:Pl):S2 a 0 p=S1 a p:=by
 rw [Bool.eq_iff_iff]
 simp only [S2,S1,Bool.or_eq_true,decide_eq_true_eq];omega
theorem senL_stage {md:ModelD} {n:Nat} (h:n<md.stages.length):senL md 1 (n:Int)=md.stages[n].opens/\senL md 2 (n:Int)=md.stages[n].closes:=by
 have hg:md.stages[n]? = some md.stages[n]:=List.getElem?_eq_getElem h
 have h0:¬(n:Int)<0:=by omega
 constructor<;>simp [senL,hg,h0]
theorem senL_stone {md:ModelD} {n:Nat} (h:n<md.stones.length):senL md 3 (n:Int)=md.stones[n].done/\senL md 4 (n:Int)=md.stones[n].undo:=by
 have hg:md.stones[n]? = some md.stones[n]:=List.getElem?_eq_getElem h
 have h0:¬(n:Int)<0:=by omega
 constructor<;>simp [senL,hg,h0]
theorem S2_all (md:ModelD) (p:Pl):(if S2 md.stages.length md.stones.length p=true then senP md p else none)=senP md p:=by
 split
 ·rfl
 rename_i h
 cases hs:senAt md p with
 | none=>simp [senP,hs]
 | some s =>
  exfalso
  have h1:=senAt_some.1 (show (senAt md p).isSome=true by rw [hs];rfl)
  obtain ⟨h2,h3⟩:=h1
  have h4:=senL_range h3
  apply h
  simp only [S2,S1,Bool.or_eq_true,decide_eq_true_eq]
  have key:∀ {α:Type} (l:List α) (f:α->List SentryD),p.2.2.toNat<((l[p.2.1.toNat]?.map f).getD []).length->p.2.1.toNat<l.length:=by
   intro α l f h
   rcases Nat.lt_or_ge p.2.1.toNat l.length with h1 | h1
   ·exact h1
   rw [List.getElem?_eq_none h1] at h;simp at h
  obtain ⟨h5,h6,-⟩:=h4
  unfold senL at h3
  rw [if_neg (by omega)] at h3
  rcases h5 with e | e | e | e
  ·rw [if_pos e] at h3
   have:=key _ _ h3
   right;omega
  ·rw [if_neg (by omega),if_pos e] at h3
   have:=key _ _ h3
   right;omega
  ·rw [if_neg (by omega),if_neg (by omega),if_pos e] at h3
   have:=key _ _ h3
   left;omega
  rw [if_neg (by omega),if_neg (by omega),if_neg (by omega),if_pos e] at h3
  have:=key _ _ h3
  left;omega
theorem sum_mem {l:List Nat} {x:Nat} (h:x∈l):x<=l.sum:=by
 induction l with
 | nil=>cases h
 | cons y l ih =>
  rw [List.sum_cons]
  rcases List.mem_cons.1 h with rfl | h
  ·omega
  have:=ih h;omega
theorem few_stage {md:ModelD} (h:manyN md<=128) {n:Nat} (hn:n<md.stages.length):md.stages[n].opens.length<=128/\md.stages[n].closes.length<=128:=by
 have:=sum_mem (List.mem_map.2 ⟨md.stages[n],List.getElem_mem hn,rfl⟩:md.stages[n].opens.length+md.stages[n].closes.length∈md.stages.map fun s=>s.opens.length+s.closes.length)
 unfold manyN at h
 omega
theorem few_stone {md:ModelD} (h:manyN md<=128) {n:Nat} (hn:n<md.stones.length):md.stones[n].done.length<=128/\md.stones[n].undo.length<=128:=by
 have:=sum_mem (List.mem_map.2 ⟨md.stones[n],List.getElem_mem hn,rfl⟩:md.stones[n].done.length+md.stones[n].undo.length∈md.stones.map fun s=>s.done.length+s.undo.length)
 unfold manyN at h
 omega
structure ModelD.Few (md:ModelD):Prop where
 stages:md.stages.length<=32
 stones:md.stones.length<=32
 many:manyN md<=128
theorem elemPl:Elem Tryz.prog 42 33 3 24:=⟨Tryz.underlying42,⟨.agg #[.int .i64 0,.int .i64 0,.int .i64 0],by kernel_rfl,rfl⟩,by omega,Tryz.sizeOf33⟩
theorem whole_keys {md:ModelD} {ents:KM.Ents Pl} (hn:(ents.map (·.1)).Nodup) (hg:∀p,KM.getM ents p=senP md p):(ents.map (·.1)).Perm (placesL md)/\ents.length=manyN md:=by
 have hp:(ents.map (·.1)).Perm (placesL md):=perm_of_mem hn (placesL_nodup md) fun p=>by
  rw [<-KM.getM_mem,hg,mem_placesL,senP,Option.isSome_map]
 refine ⟨hp,?_⟩
 have:=hp.length_eq
 rw [List.length_map,length_placesL] at this
 exact this
theorem own_snocP {w:World} {base:Nat} {va:Option Addr} {vc:Nat} {rs:List Pl} (p:Pl) (h:Own w base 33 3 va vc rs.length (rs.flatMap plC)) (hb:base<=w.heap.size) (hl:rs.length<=4000000) :
  ∃g' vc' w',(Builtin.append_ #[42,42] 42 #[.slice va rs.length vc,.slice (some ⟨w.heap.size,0,none⟩) 1 1]).run Tryz.prog (w.alloc (.cells #[.int .i64 p.1,.int .i64 p.2.1,.int .i64 p.2.2] 33))=.ok (.slice (some ⟨g',0,none⟩) (rs.length+1) vc') w' /\
   Own w' base 33 3 (some ⟨g',0,none⟩) vc' (rs++[p]).length ((rs++[p]).flatMap plC)/\Below base w w'/\w.grownBy w' (blockOf va):=by
 have hA:=Arr.new w [.int .i64 p.1,.int .i64 p.2.1,.int .i64 p.2.2] 33
 have hc0:=hA.cell (j:=0) (by simp)
 have hc1:=hA.cell (j:=1) (by simp)
 have hc2:=hA.cell (j:=2) (by simp)
 have ho:=h.alloc (.cells #[.int .i64 p.1,.int .i64 p.2.1,.int .i64 p.2.2] 33)
 have hb4:Below base w (w.alloc (.cells #[.int .i64 p.1,.int .i64 p.2.1,.int .i64 p.2.2] 33)):=(Below.refl _ _).alloc hb _
 obtain ⟨va',vc',w',hap,ho5,hg5⟩:=Own.app elemPl 42 ho (by rw [size_alloc];omega) (some ⟨w.heap.size,0,none⟩) 1 1 w.heap.size 0 [.int .i64 p.1,.int .i64 p.2.1,.int .i64 p.2.2] rfl (fun _=>rfl) (fun j u hj=>by
  match j,hj with
  | 0,hj=>simp at hj;subst hj;exact hc0
  | 1,hj=>simp at hj;subst hj;exact hc1
  | 2,hj=>simp at hj;subst hj;exact hc2
  | j+3,hj=>simp at hj) (fun u hu=>by
  simp only [List.mem_cons,List.not_mem_nil,or_false] at hu
  rcases hu with rfl | rfl | rfl<;>rfl) (by unfold maxLen;omega) (by omega)
 have hva:∃g',va'=some ⟨g',0,none⟩:=by
  rcases ho5.block with ⟨_,h0,_⟩ | ⟨g,h1,_⟩
  ·omega
  exact ⟨g,h1⟩
 obtain ⟨g',rfl⟩:=hva
 refine ⟨g',vc',w',hap,by simpa [plC] using ho5,hb4.grown hg5 (by rw [size_alloc];omega) (fun j hj=>?_),(World.grownBy_alloc _ _ _).trans hg5⟩
 rcases ho.block with ⟨h1,_⟩ | ⟨g,h1,h2,_⟩
 ·rw [h1] at hj;cases hj
 rw [h1] at hj;cases hj;exact h2
def keysAt (ents:KM.Ents Pl) (seen:List Nat):List Pl:=seen.map fun i=>(ents.map (·.1)).getD i (0,0,0)
theorem keysAt_perm {ents:KM.Ents Pl} {seen:List Nat} (hn:(ents.map (·.1)).Nodup) (hs:seen.Nodup) (hin:∀i∈seen,i<ents.length) (hall:∀i,i<ents.length->i∈seen):(keysAt ents seen).Nodup/\∀p,p∈keysAt ents seen↔p∈ents.map (·.1):=by
 have hg:∀i,i<ents.length->∃h:i<(ents.map (·.1)).length,(ents.map (·.1)).getD i (0,0,0)=(ents.map (·.1))[i]:=fun i hi=>⟨by simpa using hi,by rw [List.getD_eq_getElem?_getD,List.getElem?_eq_getElem (by simpa using hi)];rfl⟩
 constructor
 ·unfold keysAt
  refine List.pairwise_map.2 (List.Pairwise.imp_of_mem (fun {a b} ha hb hab he=>?_) hs)
  obtain ⟨h1,e1⟩:=hg a (hin a ha)
  obtain ⟨h2,e2⟩:=hg b (hin b hb)
  rw [e1,e2] at he
  exact hab ((List.getElem_inj hn).1 he)
 intro p
 unfold keysAt
 rw [List.mem_map]
 constructor
 ·rintro ⟨i,hi,rfl⟩
  obtain ⟨h1,e1⟩:=hg i (hin i hi)
  rw [e1];exact List.getElem_mem h1
 intro hp
 obtain ⟨i,hi,rfl⟩:=List.mem_iff_getElem.1 hp
 obtain ⟨h1,e1⟩:=hg i (by simpa using hi)
 exact ⟨i,hall i (by simpa using hi),e1⟩
theorem seen_le {seen:List Nat} {n:Nat} (hn:seen.Nodup) (hin:∀i∈seen,i<n):seen.length<=n:=by
 have h:∀(s l:List Nat),s.Nodup->(∀y∈s,y∈l)->s.length<=l.length:=by
  intro s
  induction s with
  | nil=>intro l _ _;simp
  | cons x s ih =>
   intro l hn hm
   have hx:=hm x (List.mem_cons_self ..)
   have:=ih (l.erase x) (List.nodup_cons.1 hn).2 fun y hy=>(List.mem_erase_of_ne (fun e:y=x=>(List.nodup_cons.1 hn).1 (e▸hy))).2 (hm y (List.mem_cons_of_mem _ hy))
   rw [List.length_erase_of_mem hx] at this
   have:=List.length_pos_of_mem hx
   simp only [List.length_cons]
   omega
 have:=h seen (List.range n) hn fun y hy=>List.mem_range.2 (hin y hy)
 simpa using this
def PlacesEnd (md:ModelD) (w:World) (e:Ending) (w':World):Prop:=Below w.heap.size w w'/\∃g vc M ents,e=.returned (.tuple #[.slice (some ⟨g,0,none⟩) (placesL md).length vc,.map (some M)])/\w.heap.size<=g/\g<w'.heap.size /\
 Mem false (From 0) w' (flatL 3 plC (placesL md)) (.slice (some ⟨g,0,none⟩) (placesL md).length vc)/\w.heap.size<=M/\KM.MapIs plV okPl w' M ents/\∀p,KM.getM ents p=senP md p
theorem places_walk (md:ModelD) (v:ModelV) (w:World) (hf:md.Few) (hM:ModelM false (From 0) w md v):Calls Tryz.prog 16 #[.agg (v.cs md).toArray] w (PlacesEnd md w):=by
 obtain ⟨a1,n1,a2,n2,a3,n3,a4,n4,a5,n5⟩:=v
 obtain ⟨wa,hwa⟩:∃wa,w.alloc (.cells (ModelV.cs ⟨a1,n1,a2,n2,a3,n3,a4,n4,a5,n5⟩ md).toArray 31)=wa:=⟨_,rfl⟩
 obtain ⟨w1,hw1⟩:∃w1,(wa.alloc (.map #[] 0)).alloc (.cells #[.map (some (w.heap.size+1))] 51)=w1:=⟨_,rfl⟩
 have hza:wa.heap.size=w.heap.size+1:=by rw [<-hwa,size_alloc]
 have hba:Below w.heap.size w wa:=hwa▸(Below.refl _ _).alloc (Nat.le_refl _) _
 have hxa:Arr wa w.heap.size 31 (ModelV.cs ⟨a1,n1,a2,n2,a3,n3,a4,n4,a5,n5⟩ md):=hwa▸Arr.new w _ _
 have hb1:Below w.heap.size w w1:=hw1▸(hba.alloc (by omega) _).alloc (by rw [size_alloc];omega) _
 have hx1:Arr w1 w.heap.size 31 (ModelV.cs ⟨a1,n1,a2,n2,a3,n3,a4,n4,a5,n5⟩ md):=hw1▸(hxa.alloc _).alloc _
 have hm1:KM.MapIs plV okPl w1 (w.heap.size+1) []:=by
  have:=(KM.MapIs.made (val:=plV) (ok:=okPl) wa).alloc (.cells #[.map (some (w.heap.size+1))] 51)
  rw [hza,hw1] at this
  exact this
 have hc1:w1.cell? ⟨w.heap.size+1+1,0,none⟩=some (.map (some (w.heap.size+1))):=by
  have:=(Arr.new (wa.alloc (.map #[] 0)) [.map (some (w.heap.size+1))] 51).cell (j:=0) (by simp)
  rw [size_alloc,hza,show (wa.alloc (.map #[] 0)).alloc (.cells (List.toArray [Value.map (some (w.heap.size+1))]) 51)=w1 from hw1] at this
  exact this
 have hz1:w1.heap.size=w.heap.size+1+1+1:=by rw [<-hw1,size_alloc,size_alloc,hza]
 have HM:=hid hM
 have HX:=hid hx1
 have HB1:=hid hb1
 have HIM:=hid hm1.isMap
 have HC1:=hid hc1
 have HF:=hid hf
 have HZ1:=hid hz1
 have HWA:=hid hwa
 have HW1:Hid ((wa.alloc (.map #[] 0)).alloc (.cells #[.map (some (w.heap.size+1))] 51)=w1):=hw1
 have HMT:Hid (MapTo md (S1 0) w1 (w.heap.size+1)):=⟨[],hm1,fun p=>by
  rw [if_neg (by simp only [S1,decide_eq_true_eq];omega)];rfl⟩
 have hkeep:∀W,w1.grownBy W (some (w.heap.size+1))->Below w.heap.size w W:=fun W hg=>hb1.grown hg hb1.size (fun j hj=>by cases hj;omega)
 have HKP:=hid hkeep
 have heg:∀args w,(callFunc 29 args).run Tryz.prog w=.ok (.enter 29 args) w:=enters_of Tryz.func29 (by kernel_rfl) rfl
 have hx6:∀W,w1.grownBy W (some (w.heap.size+1))->W.cell? ⟨w.heap.size,3,none⟩=some (.slice a3 md.stages.length n3)/\W.cell? ⟨w.heap.size,4,none⟩=some (.slice a4 md.stones.length n4)/\W.cell? ⟨w.heap.size+1+1,0,none⟩=some (.map (some (w.heap.size+1))):=fun W hg=>by
  obtain ⟨-,-,-,y3,y4,-⟩:=box6 hx1 (Below.refl _ _)
  exact ⟨grown_cell hg y3 HIM.out,grown_cell hg y4 HIM.out,grown_cell hg hc1 HIM.out⟩
 have HX6:=hid hx6
 obtain ⟨y3,y4,yB⟩:=hx6 w1 (World.grownBy.refl _ _)
 have hmm:=@run_makeMap Tryz.prog
 clear hM hx1 hb1 hm1 hc1 hf hz1 hwa hw1 hba hxa hkeep hx6
 go_enter Tryz.func16,Tryz.ntmps16
 go_upto_region 1 with fail
 rw [HWA.out]
 go_upto_region 2 with fail
 rw [HW1.out]
 go_wp2_with fail
 go_loopw [17] (fun i wr=>∃m:Nat,m<=md.stages.length/\i=.int .i64 (m:Int)/\Hid (MapTo md (S1 m) wr (w.heap.size+1))/\Hid (w1.grownBy wr (some (w.heap.size+1)))) (fun i _=>md.stages.length-(intOf i).toNat)
 case atStart=>exact ⟨0,Nat.zero_le _,rfl,HMT.out,World.grownBy.refl _ _⟩
 obtain ⟨m,hml,rfl,HMP,HG⟩:=hrel
 obtain ⟨y3,y4,yB⟩:=HX6.out wr HG.out
 by_cases hlt:m<md.stages.length
 ·have i1:(m:Int)<(md.stages.length:Int):=by omega
  have i2:(0:Int)<=(m:Int):=by omega
  have HML:=hid hlt
  have HBw:=hid (HKP.out wr HG.out)
  obtain ⟨b,off,ha,hbl,d1,e1,d2,e2,s1,s2,c0,c1,c2,c3,c4,c5,c6⟩:=stage_at HM.out hlt
  obtain rfl:a3=some ⟨b,off,none⟩:=ha
  replace c0:=cellBelow2 HBw.out c0
  replace c1:=cellBelow2 HBw.out c1
  replace c2:=cellBelow2 HBw.out c2
  replace c3:=cellBelow2 HBw.out c3
  replace c4:=cellBelow2 HBw.out c4
  replace c5:=cellBelow2 HBw.out c5
  replace c6:=cellBelow2 HBw.out c6
  have hl1:=(HF.out).stages
  have hfw:=few_stage HF.out.many hlt
  have hsl:=senL_stage hlt
  have hb8:=(Below.refl wr.heap.size wr).alloc (Nat.le_refl _) (.cells #[.string md.stages[m].name,.int .i64 md.stages[m].inn,.slice d1 md.stages[m].opens.length e1,.slice d2 md.stages[m].closes.length e2,.string md.stages[m].role,.int .i64 md.stages[m].aft,.string md.stages[m].event] 38)
  obtain ⟨ents1,hm1,he1⟩:=HMP.out
  have HP1:=hid (put_walk 1 (m:Int) md.stages[m].opens d1 e1 (w.heap.size+1+1) (w.heap.size+1) ents1 _ (by omega) (by omega) (by omega) (cellBelow2 hb8 yB) (hm1.alloc _) ((s1.grow HBw.out).grow hb8))
  have HE1:=hid he1
  have HS2:=hid s2
  have HI8:=hid ((hm1.alloc (.cells #[.string md.stages[m].name,.int .i64 md.stages[m].inn,.slice d1 md.stages[m].opens.length e1,.slice d2 md.stages[m].closes.length e2,.string md.stages[m].role,.int .i64 md.stages[m].aft,.string md.stages[m].event] 38)).isMap)
  have HX8:=hid (Arr.new wr [.string md.stages[m].name,.int .i64 md.stages[m].inn,.slice d1 md.stages[m].opens.length e1,.slice d2 md.stages[m].closes.length e2,.string md.stages[m].role,.int .i64 md.stages[m].aft,.string md.stages[m].event] 38)
  have HSL:=hid hsl
  have HFW:=hid hfw
  have HL1:=hid hl1
  have z8:=HX8.out.cell (j:=2) (by simp)
  simp only [gE0,gE1] at z8
  clear hb8 hm1 he1 s1 s2 hsl hfw hl1 HMP
  go_wp2_with fail
  refine HP1.out.mono ?_
  intro e w3 hpe
  obtain ⟨rfl,hmt,hg3⟩:=hpe.to (S':=S1h m) HE1.out HSL.out.1 (fun p=>rfl)
  obtain ⟨ents2,hm2,he2⟩:=hmt
  have hg03:=(HG.out.trans (World.grownBy_alloc _ _ _)).trans hg3
  have HG3:=hid hg03
  clear y3 y4 yB
  obtain ⟨y3,y4,yB⟩:=HX6.out w3 hg03
  have z9:w3.cell? ⟨wr.heap.size,3,none⟩=some (.slice d2 md.stages[m].closes.length e2):=grown_cell hg3 (HX8.out.cell (j:=3) (by simp)) HI8.out
  have hfw:=HFW.out
  have hl1:=HL1.out
  have HP2:=hid (put_walk 2 (m:Int) md.stages[m].closes d2 e2 (w.heap.size+1+1) (w.heap.size+1) ents2 w3 (by omega) (by have:=HML.out;omega) (by omega) yB hm2 (HS2.out.grow (HKP.out w3 hg03)))
  have HE2:=hid he2
  clear hpe hm2 he2 hg3 hg03 hfw hl1 z8 HP1
  go_wp2_with fail
  refine HP2.out.mono ?_
  intro e w4 hpe
  obtain ⟨rfl,hmt,hg4⟩:=hpe.to (S':=S1 (m+1)) HE2.out HSL.out.2 (fun p=>S1_next m p)
  have HMT4:=hid hmt
  have HG4:=hid (HG3.out.trans hg4)
  have wr1:IntKind.i64.wrap ((m:Int)+1)=(m:Int)+1:=wrap_i64 (by omega) (by have:=HML.out;have:=HL1.out;omega)
  clear hpe hmt hg4 HP2 z9 y3 y4 yB
  go_wp2_with fail
  refine ⟨⟨m+1,by have:=HML.out;omega,by go_num,HMT4,HG4⟩,by simp only [intOf];have:=HML.out;omega⟩
 obtain rfl:m=md.stages.length:=by omega
 have i1:¬(md.stages.length:Int)<(md.stages.length:Int):=by omega
 have HMT1:=hid HMP.out
 have HG1:=hid HG.out
 clear HMP HG
 rename World=>W1
 go_wp2_with fail
 go_loopw [36] (fun i wr=>∃m:Nat,m<=md.stones.length/\i=.int .i64 (m:Int)/\Hid (MapTo md (S2 md.stages.length m) wr (w.heap.size+1))/\Hid (w1.grownBy wr (some (w.heap.size+1)))) (fun i _=>md.stones.length-(intOf i).toNat)
 case atStart=>exact ⟨0,Nat.zero_le _,rfl,(show MapTo _ _ _ _ from by obtain ⟨en,q1,q2⟩:=HMT1.out;exact ⟨en,q1,fun p=>by rw [S2_zero];exact q2 p⟩),HG1.out⟩
 obtain ⟨m,hml,rfl,HMP,HG⟩:=hrel
 obtain ⟨y3,y4,yB⟩:=HX6.out wr HG.out
 by_cases hlt:m<md.stones.length
 ·have i1:(m:Int)<(md.stones.length:Int):=by omega
  have i2:(0:Int)<=(m:Int):=by omega
  have HML:=hid hlt
  have HBw:=hid (HKP.out wr HG.out)
  obtain ⟨b,off,ha,hbl,d1,e1,d2,e2,s1,s2,c0,c1,c2⟩:=stone_at HM.out hlt
  obtain rfl:a4=some ⟨b,off,none⟩:=ha
  replace c0:=cellBelow2 HBw.out c0
  replace c1:=cellBelow2 HBw.out c1
  replace c2:=cellBelow2 HBw.out c2
  have hl1:=(HF.out).stones
  have hfw:=few_stone HF.out.many hlt
  have hsl:=senL_stone hlt
  have hb8:=(Below.refl wr.heap.size wr).alloc (Nat.le_refl _) (.cells #[.string md.stones[m].name,.slice d1 md.stones[m].done.length e1,.slice d2 md.stones[m].undo.length e2] 58)
  obtain ⟨ents1,hm1,he1⟩:=HMP.out
  have HP1:=hid (put_walk 3 (m:Int) md.stones[m].done d1 e1 (w.heap.size+1+1) (w.heap.size+1) ents1 _ (by omega) (by omega) (by omega) (cellBelow2 hb8 yB) (hm1.alloc _) ((s1.grow HBw.out).grow hb8))
  have HE1:=hid he1
  have HS2:=hid s2
  have HI8:=hid ((hm1.alloc (.cells #[.string md.stones[m].name,.slice d1 md.stones[m].done.length e1,.slice d2 md.stones[m].undo.length e2] 58)).isMap)
  have HX8:=hid (Arr.new wr [.string md.stones[m].name,.slice d1 md.stones[m].done.length e1,.slice d2 md.stones[m].undo.length e2] 58)
  have HSL:=hid hsl
  have HFW:=hid hfw
  have HL1:=hid hl1
  have z8:=HX8.out.cell (j:=1) (by simp)
  simp only [gE0,gE1] at z8
  clear hb8 hm1 he1 s1 s2 hsl hfw hl1 HMP
  go_wp2_with fail
  refine HP1.out.mono ?_
  intro e w3 hpe
  obtain ⟨rfl,hmt,hg3⟩:=hpe.to (S':=S2h md.stages.length m) HE1.out HSL.out.1 (fun p=>rfl)
  obtain ⟨ents2,hm2,he2⟩:=hmt
  have hg03:=(HG.out.trans (World.grownBy_alloc _ _ _)).trans hg3
  have HG3:=hid hg03
  clear y3 y4 yB
  obtain ⟨y3,y4,yB⟩:=HX6.out w3 hg03
  have z9:w3.cell? ⟨wr.heap.size,2,none⟩=some (.slice d2 md.stones[m].undo.length e2):=grown_cell hg3 (HX8.out.cell (j:=2) (by simp)) HI8.out
  have hfw:=HFW.out
  have hl1:=HL1.out
  have HP2:=hid (put_walk 4 (m:Int) md.stones[m].undo d2 e2 (w.heap.size+1+1) (w.heap.size+1) ents2 w3 (by omega) (by have:=HML.out;omega) (by omega) yB hm2 (HS2.out.grow (HKP.out w3 hg03)))
  have HE2:=hid he2
  clear hpe hm2 he2 hg3 hg03 hfw hl1 z8 HP1
  go_wp2_with fail
  refine HP2.out.mono ?_
  intro e w4 hpe
  obtain ⟨rfl,hmt,hg4⟩:=hpe.to (S':=S2 md.stages.length (m+1)) HE2.out HSL.out.2 (fun p=>S2_next _ m p)
  have HMT4:=hid hmt
  have HG4:=hid (HG3.out.trans hg4)
  have wr1:IntKind.i64.wrap ((m:Int)+1)=(m:Int)+1:=wrap_i64 (by omega) (by have:=HML.out;have:=HL1.out;omega)
  clear hpe hmt hg4 HP2 z9 y3 y4 yB
  go_wp2_with fail
  refine ⟨⟨m+1,by have:=HML.out;omega,by go_num,HMT4,HG4⟩,by simp only [intOf];have:=HML.out;omega⟩
 obtain rfl:m=md.stones.length:=by omega
 have i1:¬(md.stones.length:Int)<(md.stones.length:Int):=by omega
 have HMT2:=hid HMP.out
 have HG2:=hid HG.out
 clear HMP HG
 rename World=>W2
 obtain ⟨ents,hme,hge⟩:=HMT2.out
 have hge2:∀p,KM.getM ents p=senP md p:=fun p=>by rw [hge,S2_all]
 obtain ⟨hkp,hlen⟩:=whole_keys hme.nodup hge2
 have hmany:=HF.out.many
 obtain ⟨N,hN⟩:∃N,ents.length=N:=⟨_,rfl⟩
 have hN1:N<=128:=by omega
 have hln:=hme.len Tryz.underlying51 3
 rw [hN] at hln
 obtain ⟨z,hz,hzs⟩:=elemPl.info
 obtain ⟨ti,hti,hz0,hz1,hz2⟩:=info_parts hz
 obtain ⟨W3,hmk,hrow,hg3⟩:=run_make_own (P:=Tryz.prog) W2 W2.heap.size 42 33 ti z 3 elemPl.sl hti hz0 hz1 .i64 .i64 N (by rw [hz2];omega) (by unfold maxLen;omega) (Nat.le_refl _)
 have hb23:Below W2.heap.size W2 W3:=(Below.refl _ _).grown hg3 (Nat.le_refl _) (fun j hj=>by cases hj)
 have hm3:=hme.below hb23 hme.lt
 have hrg:=hm3.range Tryz.underlying51
 rw [hN] at hrg
 obtain ⟨W4,hW4⟩:∃W4,W3.alloc (.mapIter (some (w.heap.size+1)) N #[] N)=W4:=⟨_,rfl⟩
 have hb34:Below W3.heap.size W3 W4:=hW4▸(Below.refl _ _).alloc (Nat.le_refl _) _
 have hI0:IterIs W4 W3.heap.size (w.heap.size+1) N []:=hW4▸IterIs.made W3 _ _
 have hm4:KM.MapIs plV okPl W4 (w.heap.size+1) ents:=hm3.below hb34 hm3.lt
 have ho3:Own W3 W2.heap.size 33 3 (some ⟨W2.heap.size,0,none⟩) N 0 []:=⟨hrow⟩
 have ho4:Own W4 W2.heap.size 33 3 (some ⟨W2.heap.size,0,none⟩) N 0 []:=ho3.below hb34 (Nat.le_refl _)
 have hb04:Below w.heap.size w W4:=(HKP.out W2 HG2.out).trans ((hb23.trans (hb34.mono hb23.size)).mono (HKP.out W2 HG2.out).size)
 have hMlt:w.heap.size+1<W2.heap.size:=hme.lt
 have hr0:W2.heap.size<=W3.heap.size:=hb23.size
 have yB3:=cellBelow2 hb23 yB
 have HB04:=hid hb04
 have HN:=hid hN
 have HGE:=hid hge2
 have HKY:=hid hkp
 have HI0:=hid hI0
 have HM4:=hid hm4
 have HO4:=hid ho4
 have HB24:=hid (hb23.trans (hb34.mono hb23.size))
 have HYB:=hid yB
 have HWB:=hid (HKP.out W2 HG2.out)
 have hrl:W3.heap.size<W4.heap.size:=by rw [<-hW4,size_alloc];omega
 have HRL:=hid hrl
 rw [hW4] at hrg
 clear hme hge hge2 hkp hlen hmany hz hzs hti hz0 hz1 hz2 hrow hg3 hb23 hm3 hb34 hI0 hm4 ho3 ho4 hb04 hN hW4 hrl HMT2 HMT1 y3 y4
 go_wp2_with fail
 go_loopg [10] N (fun gf l wr=>∃seen:List Nat,N<=seen.length+gf/\(∃g vc,l=.slice (some ⟨g,0,none⟩) seen.length vc/\Hid (Own wr W2.heap.size 33 3 (some ⟨g,0,none⟩) vc (keysAt ents seen).length ((keysAt ents seen).flatMap plC)))/\Hid (IterIs wr W3.heap.size (w.heap.size+1) N seen)/\Hid (KM.MapIs plV okPl wr (w.heap.size+1) ents)/\Hid (Below W2.heap.size W2 wr)/\Hid (W3.heap.size<wr.heap.size))
 case atStart=>exact ⟨[],by simp,⟨_,_,rfl,HO4.out⟩,HI0.out,HM4.out,HB24.out,HRL.out⟩
 obtain ⟨seen,hgf,⟨g,vc,rfl,HO⟩,HI,HMM,HB,HR⟩:=hrel
 have hi1:=HI.out
 rw [<-HN.out] at hi1
 have hkl:(keysAt ents seen).length=seen.length:=by simp [keysAt]
 rcases HMM.out.next (P:=Tryz.prog) hi1 0 with ⟨hall,hnx⟩ | ⟨i,hi,hni,w4,hnx,hM4,hI4,hg4,hz4,hen⟩
 ·obtain ⟨hnd,hmem⟩:=keysAt_perm HMM.out.nodup hi1.nodup hi1.inB hall
  have hsl:=seen_le hi1.nodup hi1.inB
  have HSO:=hid (sortPlaces W2.heap.size g vc (keysAt ents seen) wr HO.out (by rw [hkl];have:=HN.out;omega))
  rw [hkl] at HSO
  have HND:=hid hnd
  have HME:=hid hmem
  have HKL:=hid hkl
  have yBr:=cellBelow2 HB.out HYB.out
  have HOG:=hid (HO.out.lt rfl)
  have HB4':=hid (cellBelow2 HB.out HYB.out)
  clear hi1 hkl hall hnd hmem hsl HO yBr
  go_wp2_with fail
  refine HSO.out.mono ?_
  rintro e w5 ⟨rfl,l',hp,hs,hO5,hg5⟩
  have hMg:w.heap.size+1≠g:=by have:=HOG.out;omega
  have hm5:=HMM.out.kept (hg5.block (w.heap.size+1) HMM.out.lt (fun e=>hMg (Option.some.inj e)))
  have hBl:=World.block_lt_of_cell? wr _ HB4'.out
  have hBg:w.heap.size+1+1≠g:=by
   have h1:=HOG.out
   have h2:=World.block_lt_of_cell? W2 _ HYB.out
   simp only at h2
   omega
  have yB5:w5.cell? ⟨w.heap.size+1+1,0,none⟩=some (.map (some (w.heap.size+1))):=by
   rw [World.cell?_of_block (hg5.block _ hBl (fun e=>hBg (Option.some.inj e)))];exact HB4'.out
  have hl':l'=placesL md:=by
   refine sorted_places (hp.nodup_iff.2 HND.out) (fun p=>?_) hs
   rw [hp.mem_iff,HME.out,HKY.out.mem_iff,mem_placesL]
  subst hl'
  have hlen:seen.length=(placesL md).length:=by rw [<-HKL.out];exact hp.length_eq.symm
  have hb5:Below w.heap.size w w5:=(HWB.out.trans (HB.out.mono HWB.out.size)).grown hg5 (by have:=HWB.out.size;have:=HB.out.size;omega) (fun j hj=>by
   cases hj
   have h1:=HOG.out.1
   have h2:=HWB.out.size
   omega)
  have HB5:=hid hb5
  have HM5:=hid hm5
  have HGS:Hid (w.heap.size<=g/\g<w5.heap.size):=by
   show _/\_
   have h1:=HOG.out
   have h2:=HWB.out.size
   have h3:=hg5.size
   omega
  rw [HKL.out,hlen] at hO5
  have HO5:=hid (flat_own (f:=plC) hO5 (by omega) (fun _=>rfl))
  rw [hlen]
  clear hp hs hO5 hg5 hMg hm5 hBl hBg hlen hb5 HSO HND HME HKL HMM HB HOG HB4' hnx HI hgf
  go_wp2_with fail
  go_quiet (fail)
  go_wp2_with fail
  go_ret2
  exact ⟨below_drewN HB5.out _,g,vc,w.heap.size+1,ents,rfl,HGS.out.1,HGS.out.2,(HO5.out.read).kept (fun _ _ _=>rfl) (Nat.le_refl _),by omega,HM5.out.kept rfl,HGE.out⟩
 simp only [plV] at hnx hen
 have hiN:i<N:=by rw [<-HN.out];exact hi
 obtain ⟨pk,hpk⟩:∃pk,ents[i].1=pk:=⟨_,rfl⟩
 obtain ⟨u,hu⟩:∃u,ents[i].2=u:=⟨_,rfl⟩
 rw [hpk,hu] at hnx hen
 have hb4:Below W2.heap.size W2 w4:=HB.out.grown hg4 HB.out.size (fun j hj=>by cases hj;exact hr0)
 have hgr:∀g',some (⟨g,0,none⟩:Addr)=some ⟨g',0,none⟩->some g'≠some W3.heap.size:=by
  intro g' he e
  cases he
  cases e
  obtain ⟨g'',he,-,-,hc,-⟩:∃g'',(some (⟨W3.heap.size,0,none⟩:Addr))=some ⟨g'',0,none⟩/\True/\True/\True/\True:=⟨_,rfl,trivial,trivial,trivial,trivial⟩
  rcases HO.out.block with ⟨h1,_⟩ | ⟨g3,h1,-,-,cur,hcur,-⟩
  ·cases h1
  cases h1
  have:=HI.out.heap
  rw [this] at hcur
  cases hcur
 have ho4:=HO.out.grown hg4 hgr
 have ho5:=ho4.alloc (.cells #[.int .i64 pk.1,.int .i64 pk.2.1,.int .i64 pk.2.2] 33)
 obtain ⟨g',vc',w6,hap,ho6,hb6,hgg⟩:=own_snocP pk ho5 (by have:=hb4.size;rw [size_alloc];omega) (by
  have:=seen_le hi1.nodup hi1.inB
  have:=HN.out
  omega)
 rw [hkl,size_alloc] at hap
 have hks:keysAt ents seen++[pk]=keysAt ents (seen++[i]):=by
  simp only [keysAt,List.map_append,List.map_cons,List.map_nil]
  congr 2
  rw [List.getD_eq_getElem?_getD,List.getElem?_map,List.getElem?_eq_getElem hi,<-hpk];rfl
 rw [hks] at ho6
 have hb46:Below W2.heap.size w4 w6:=((Below.refl _ _).alloc hb4.size _).trans hb6
 have hb5:Below W2.heap.size W2 w6:=hb4.trans hb46
 have hgr0:g≠W3.heap.size:=fun e=>hgr g rfl (by rw [e])
 have hg46:=(World.grownBy_alloc w4 (.cells #[.int .i64 pk.1,.int .i64 pk.2.1,.int .i64 pk.2.2] 33) (blockOf (some ⟨g,0,none⟩))).trans hgg
 have hI6:IterIs w6 W3.heap.size (w.heap.size+1) N (seen++[i]):=by
  rw [HN.out] at hI4
  exact ⟨(hg46.block _ hI4.lt (fun e=>hgr0 (Option.some.inj e).symm)).trans hI4.heap,hI4.inB,hI4.nodup⟩
 have hM6:KM.MapIs plV okPl w6 (w.heap.size+1) ents:=hM4.below hb46 hMlt
 have hsl6:=seen_le hI6.nodup hI6.inB
 have HI6:=hid hI6
 have HM6:=hid hM6
 have hR6:W3.heap.size<w6.heap.size:=Nat.lt_of_lt_of_le (Nat.lt_of_lt_of_le HR.out (Nat.le_of_eq hz4.symm)) hb46.size
 have HR6:=hid hR6
 have HAP:=hid hap
 have HO6:=hid ho6
 have HB6:=hid hb5
 have hgk:0<gk:=by simp at hsl6;omega
 obtain ⟨g0,rfl⟩:∃g0,gk=g0+1:=⟨gk-1,by omega⟩
 have HFU:Hid (N<=(seen++[i]).length+g0):=by show _<=_;simp;omega
 have HLE:Hid ((seen++[i]).length=seen.length+1):=by show _=_;simp
 clear hi1 hkl hni hM4 hI4 hg4 hz4 hpk hu hgr ho4 ho5 hap ho6 hb6 hgg hks hb46 hb5 hgr0 hg46 hI6 hM6 hsl6 hR6 hgk hgf HO HI HMM HB HR hb4 hi hiN
 go_wp2_with (at_builtin;refine wpList_append_run (by rfl) (.tmp 61) (.tmp 63) 42 (by rfl) (by rfl) (by rfl) HAP.out ?_)
 go_roundg g0
 case measure=>omega
 case rel=>exact ⟨seen++[i],HFU.out,⟨g',vc',by rw [HLE.out],HO6⟩,HI6,HM6,HB6,HR6⟩
end Go.Proofs.YtfbbkmdhnkmonaaGreatDoor
