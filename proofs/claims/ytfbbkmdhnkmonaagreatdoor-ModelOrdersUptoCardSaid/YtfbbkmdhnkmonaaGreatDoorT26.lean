/- Proved, each under the conditions that it names: docketref18: Check; docketref18: Order, Leans; The law's small model; docketlaw18: size, many, great; docketlaw18: great answers some truth. -/
import Derived.Test.YtfbbkmdhnkmonaaGreatDoorT25
set_option maxRecDepth 100000
set_option maxHeartbeats 32000000
namespace Go.Proofs.YtfbbkmdhnkmonaaGreatDoor
open Go.RowKit
theorem rochk_drewN {B:Nat} {a w:World} (h:Below B a w) (q:Nat):Below B a (w.drewN q):=⟨h.os,h.tape,h.output,h.size,h.block⟩
theorem rfCheck_walk (md:ModelD) (v:ModelV) (w:World) (hz:md.Sml) (hM:ModelM false (From 0) w md v) :
  Calls Tryz.prog 14 #[.agg (v.cs md).toArray] w (fun e w'=>e=.returned (.int .i64 (checkE md))/\Below w.heap.size w w'):=by
 obtain ⟨w1,hw1⟩:∃w1,w.alloc (.cells (v.cs md).toArray 31)=w1:=⟨_,rfl⟩
 have hb1:Below w.heap.size w w1:=hw1▸(Below.refl _ _).alloc (Nat.le_refl _) _
 have hx1:Arr w1 w.heap.size 31 (v.cs md):=hw1▸Arr.new w (v.cs md) _
 have HM:=hid (fun W (hb:Below w1.heap.size w1 W)=>hM.grow (hb1.trans (hb.mono hb1.size)))
 have HX:=hid hx1
 have HB1:=hid hb1
 have HW1:=hid hw1
 have HZ:=hid hz
 obtain ⟨q,hq⟩:∃q,checkE md=q:=⟨_,rfl⟩
 rw [hq]
 have HQ:=hid hq
 obtain ⟨r,hr⟩:∃r,namedB md.name=r:=⟨_,rfl⟩
 have hnw:=rfNamed_walkA md.name w1
 rw [<-namedB_eq,hr] at hnw
 have HN:=hid hnw
 have HR:=hid hr
 obtain ⟨va1,vc1,va2,vc2,va3,vc3,va4,vc4,va5,vc5⟩:=v
 obtain ⟨y0,y1,y2,y3,y4,y5⟩:=box6 hx1 (Below.refl _ _)
 clear hM hb1 hx1 hw1 hz hq hr hnw
 go_enter Tryz.func14,Tryz.ntmps14
 go_upto_region 1 with fail
 rw [HW1.out]
 go_wp2_with fail
 refine HN.out.mono ?_
 rintro e w2 ⟨rfl,hb2⟩
 have HB2:=hid hb2
 clear y0 y1 y2 y3 y4 y5 HN hb2
 obtain ⟨y0,y1,y2,y3,y4,y5⟩:=box6 HX.out HB2.out
 have HBB:=hid (HB1.out.trans (HB2.out.mono HB1.out.size))
 cases r with
 | false =>
  have HE:Hid (5=q):=by show _=_;rw [<-HQ.out,checkE,if_pos HR.out]
  go_wp2_with fail
  go_ret
  exact ⟨ret_int HE.out,HBB.out⟩
 | true =>
  have HTM:Hid (tooMany md->4=q):=fun h=>by rw [<-HQ.out,checkE,if_neg (by rw [HR.out];simp),if_pos h]
  have hcase:32<md.attrs.length\/(¬32<md.attrs.length/\32<md.events.length)\/(¬32<md.attrs.length/\¬32<md.events.length/\32<md.stages.length)\/(¬32<md.attrs.length/\¬32<md.events.length/\¬32<md.stages.length/\32<md.stones.length) \/
    (¬32<md.attrs.length/\¬32<md.events.length/\¬32<md.stages.length/\¬32<md.stones.length/\32<md.apart.length)\/(¬32<md.attrs.length/\¬32<md.events.length/\¬32<md.stages.length/\¬32<md.stones.length/\¬32<md.apart.length):=by omega
  rcases hcase with h1 | ⟨h1,h2⟩ | ⟨h1,h2,h3⟩ | ⟨h1,h2,h3,h4⟩ | ⟨h1,h2,h3,h4,h5⟩ | ⟨h1,h2,h3,h4,h5⟩
  case inr.inr.inr.inr.inr =>
   have j1:¬(32:Int)<(md.attrs.length:Int):=by omega
   have j2:¬(32:Int)<(md.events.length:Int):=by omega
   have j3:¬(32:Int)<(md.stages.length:Int):=by omega
   have j4:¬(32:Int)<(md.stones.length:Int):=by omega
   have j5:¬(32:Int)<(md.apart.length:Int):=by omega
   have HL1:Hid (∀x∈md.stages,stageN x<=2097152):=fun x hx=>by have:=HZ.out.inS x hx;unfold stageN;omega
   have HL2:Hid (∀x∈md.stones,stoneN x<=2097152):=fun x hx=>by have:=HZ.out.inT x hx;unfold stoneN;omega
   go_wp2_with fail
   clear y0 y1 y2 y3 y4 y5
   go_loopw [3,4] (fun s i wr=>∃m:Nat,m<=md.stages.length/\i=.int .i64 (m:Int)/\s=.int .i64 ((sumTo stageN md.stages m:Nat):Int)/\Hid (Below w1.heap.size w1 wr)) (fun _ i _=>md.stages.length-(intOf i).toNat)
   case atStart=>exact ⟨0,Nat.zero_le _,rfl,by rw [sumTo_zero];rfl,HB2.out⟩
   obtain ⟨m,hml,rfl,rfl,HB⟩:=hrel
   obtain ⟨wo,rfl⟩:∃wo,wo=wr:=⟨_,rfl⟩
   obtain ⟨y0,y1,y2,y3,y4,y5⟩:=box6 HX.out HB.out
   have hsum:=sumTo_le stageN md.stages _ HL1.out m hml
   by_cases hlt:m<md.stages.length
   ·have i1:(m:Int)<(md.stages.length:Int):=by omega
    have i2:(0:Int)<=(m:Int):=by omega
    have HML:=hid hlt
    obtain ⟨b,off,hva,hbl,d1,e1,d2,e2,s1,s2,c0,c1,c2,c3,c4,c5,c6⟩:=stage_at (HM.out wo HB.out) hlt
    obtain rfl:va3=some ⟨b,off,none⟩:=hva
    have hin:=HZ.out.inS _ (List.getElem_mem hlt)
    have hss:sumTo stageN md.stages (m+1)=sumTo stageN md.stages m+(md.stages[m].opens.length+md.stages[m].closes.length):=sumTo_succ stageN md.stages hlt
    have HSS:Hid (((sumTo stageN md.stages m:Nat):Int)+(((md.stages[m]'hlt).opens.length:Int)+((md.stages[m]'hlt).closes.length:Int))=((sumTo stageN md.stages (m+1):Nat):Int)):=by show _=_;rw [hss];omega
    obtain ⟨S,hS⟩:∃S,sumTo stageN md.stages m=S:=⟨_,rfl⟩
    rw [hS] at hsum HSS ⊢
    have k1:IntKind.i64.wrap (((md.stages[m]'hlt).opens.length:Int)+((md.stages[m]'hlt).closes.length:Int))=((md.stages[m]'hlt).opens.length:Int)+((md.stages[m]'hlt).closes.length:Int):=wrap_i64 (by omega) (by omega)
    have k2:IntKind.i64.wrap ((S:Int)+(((md.stages[m]'hlt).opens.length:Int)+((md.stages[m]'hlt).closes.length:Int)))=(S:Int)+(((md.stages[m]'hlt).opens.length:Int)+((md.stages[m]'hlt).closes.length:Int)):=wrap_i64 (by omega) (by omega)
    have k3:IntKind.i64.wrap ((m:Int)+1)=(m:Int)+1:=wrap_i64 (by omega) (by omega)
    obtain ⟨sd,hsd⟩:∃sd,md.stages[m]'hlt=sd:=⟨_,rfl⟩
    rw [hsd] at c0 c1 c2 c3 c4 c5 c6 k1 k2 HSS
    clear s1 s2 hss hS hin hsum hsd
    go_upto_region 9 with fail
    go_quiet (fail)
    go_wp2_with fail
    go_roundw
    case rel=>exact ⟨m+1,by have:=HML.out;omega,by go_num,congrArg (Value.int .i64) HSS.out,by first | exact HB.out | exact HB.out.drew | exact rochk_drewN HB.out _⟩
    case measure=>simp only [intOf];have:=HML.out;omega
   obtain rfl:m=md.stages.length:=by omega
   have i1:¬(md.stages.length:Int)<(md.stages.length:Int):=by omega
   have HSA:Hid (sumTo stageN md.stages md.stages.length=(md.stages.map stageN).sum):=sumTo_all _ _
   obtain ⟨S0,hS0⟩:∃S,sumTo stageN md.stages md.stages.length=S:=⟨_,rfl⟩
   rw [hS0] at hsum HSA ⊢
   clear hS0
   go_wp2_with fail
   clear y0 y1 y2 y3 y4 y5
   go_loopw [3,5] (fun s i wr=>∃m:Nat,m<=md.stones.length/\i=.int .i64 (m:Int)/\s=.int .i64 ((S0+sumTo stoneN md.stones m:Nat):Int)/\Hid (Below w1.heap.size w1 wr)) (fun _ i _=>md.stones.length-(intOf i).toNat)
   case atStart=>exact ⟨0,Nat.zero_le _,rfl,by rw [sumTo_zero];rfl,HB.out⟩
   clear HB
   obtain ⟨m,hml,rfl,rfl,HB⟩:=hrel
   obtain ⟨wo,rfl⟩:∃wo,wo=wr:=⟨_,rfl⟩
   obtain ⟨y0,y1,y2,y3,y4,y5⟩:=box6 HX.out HB.out
   have hsum2:=sumTo_le stoneN md.stones _ HL2.out m hml
   by_cases hlt:m<md.stones.length
   ·have i1:(m:Int)<(md.stones.length:Int):=by omega
    have i2:(0:Int)<=(m:Int):=by omega
    have HML:=hid hlt
    obtain ⟨b,off,hva,hbl,d1,e1,d2,e2,s1,s2,c0,c1,c2⟩:=stone_at (HM.out wo HB.out) hlt
    obtain rfl:va4=some ⟨b,off,none⟩:=hva
    have hin:=HZ.out.inT _ (List.getElem_mem hlt)
    have hss:sumTo stoneN md.stones (m+1)=sumTo stoneN md.stones m+(md.stones[m].done.length+md.stones[m].undo.length):=sumTo_succ stoneN md.stones hlt
    have HSS:Hid (((S0+sumTo stoneN md.stones m:Nat):Int)+(((md.stones[m]'hlt).done.length:Int)+((md.stones[m]'hlt).undo.length:Int))=((S0+sumTo stoneN md.stones (m+1):Nat):Int)):=by show _=_;rw [hss];omega
    obtain ⟨S,hS⟩:∃S,S0+sumTo stoneN md.stones m=S:=⟨_,rfl⟩
    have hSb:S<=S0+m*2097152:=by omega
    rw [hS] at HSS ⊢
    have k1:IntKind.i64.wrap (((md.stones[m]'hlt).done.length:Int)+((md.stones[m]'hlt).undo.length:Int))=((md.stones[m]'hlt).done.length:Int)+((md.stones[m]'hlt).undo.length:Int):=wrap_i64 (by omega) (by omega)
    have k2:IntKind.i64.wrap ((S:Int)+(((md.stones[m]'hlt).done.length:Int)+((md.stones[m]'hlt).undo.length:Int)))=(S:Int)+(((md.stones[m]'hlt).done.length:Int)+((md.stones[m]'hlt).undo.length:Int)):=wrap_i64 (by omega) (by omega)
    have k3:IntKind.i64.wrap ((m:Int)+1)=(m:Int)+1:=wrap_i64 (by omega) (by omega)
    obtain ⟨sd,hsd⟩:∃sd,md.stones[m]'hlt=sd:=⟨_,rfl⟩
    rw [hsd] at c0 c1 c2 k1 k2 HSS
    clear s1 s2 hss hS hin hsum2 hsd hSb
    go_upto_region 13 with fail
    go_quiet (fail)
    go_wp2_with fail
    go_roundw
    case rel=>exact ⟨m+1,by have:=HML.out;omega,by go_num,congrArg (Value.int .i64) HSS.out,by first | exact HB.out | exact HB.out.drew | exact rochk_drewN HB.out _⟩
    case measure=>simp only [intOf];have:=HML.out;omega
   obtain rfl:m=md.stones.length:=by omega
   have i1:¬(md.stones.length:Int)<(md.stones.length:Int):=by omega
   have HMY:Hid (S0+sumTo stoneN md.stones md.stones.length=manyN md):=by show _=_;rw [HSA.out,sumTo_all,manyN_eq]
   rw [HMY.out]
   have HBW:=hid (HB1.out.trans (HB.out.mono HB1.out.size))
   clear HMY HSA hsum hsum2
   by_cases h6:128<manyN md
   ·have j6:(128:Int)<(manyN md:Int):=by omega
    have HE:=hid (HTM.out (by unfold tooMany;omega))
    go_wp2_with fail
    go_ret
    exact ⟨ret_int HE.out,HBW.out⟩
   have j6:¬(128:Int)<(manyN md:Int):=by omega
   have hmany:manyN md<=128:=by omega
   have htm:¬tooMany md:=by unfold tooMany;omega
   have HMN:=hid hmany
   have HC:=hid (rfParts_walk md ⟨va1,vc1,va2,vc2,va3,vc3,va4,vc4,va5,vc5⟩ wo HZ.out hmany (HM.out wo HB.out))
   obtain ⟨r,hr⟩:∃r,builtB md=r:=⟨_,rfl⟩
   rw [hr] at HC
   have HR2:=hid hr
   have HQ2:Hid (checkE md=if builtB md=false then 180 else if (orderL md).length<(placesL md).length then 181 else 0):=by show _=_;rw [checkE,if_neg (by rw [HR.out];simp),if_neg htm]
   have HPL:Hid (manyN md=(placesL md).length):=(length_placesL md).symm
   clear hr htm h1 h2 h3 h4 h5 h6 hmany
   go_wp2_with fail
   refine HC.out.mono ?_
   rintro e w3 ⟨rfl,hb3⟩
   have HB3:=hid (HB.out.trans (hb3.mono HB.out.size))
   have HBW3:=hid (HB1.out.trans (HB3.out.mono HB1.out.size))
   clear hb3 HC y0 y1 y2 y3 y4 y5
   obtain ⟨y0,y1,y2,y3,y4,y5⟩:=box6 HX.out HB3.out
   cases r with
   | false =>
    have HE:Hid (180=q):=by show _=_;rw [<-HQ.out,HQ2.out,if_pos HR2.out]
    go_wp2_with fail
    go_ret
    exact ⟨ret_int HE.out,HBW3.out⟩
   | true =>
    have HO:=hid (rfOrder_walk md ⟨va1,vc1,va2,vc2,va3,vc3,va4,vc4,va5,vc5⟩ w3 HZ.out ((builtB_iff md).1 HR2.out) HMN.out (HM.out w3 HB3.out))
    go_wp2_with fail
    refine HO.out.mono ?_
    rintro e w5 ⟨hb5,oa,oc,rfl,-⟩
    have HB5:=hid (HBW3.out.trans (hb5.mono HBW3.out.size))
    clear hb5 HO
    by_cases hlt:(orderL md).length<(placesL md).length
    ·have k1:((orderL md).length:Int)<(manyN md:Int):=by rw [HPL.out];omega
     have HE:Hid (181=q):=by show _=_;rw [<-HQ.out,HQ2.out,if_neg (by rw [HR2.out];simp),if_pos hlt]
     go_wp2_with fail
     go_ret
     exact ⟨ret_int HE.out,HB5.out⟩
    have k1:¬((orderL md).length:Int)<(manyN md:Int):=by rw [HPL.out];omega
    have HE:Hid (0=q):=by show _=_;rw [<-HQ.out,HQ2.out,if_neg (by rw [HR2.out];simp),if_neg hlt]
    go_wp2_with fail
    go_ret
    exact ⟨ret_int HE.out,HB5.out⟩
  all_goals
   have HE:=hid (HTM.out (by unfold tooMany;omega))
  case inl =>
   have j1:(32:Int)<(md.attrs.length:Int):=by omega
   go_wp2_with fail
   go_ret
   exact ⟨ret_int HE.out,HBB.out⟩
  case inr.inl =>
   have j1:¬(32:Int)<(md.attrs.length:Int):=by omega
   have j2:(32:Int)<(md.events.length:Int):=by omega
   go_wp2_with fail
   go_ret
   exact ⟨ret_int HE.out,HBB.out⟩
  case inr.inr.inl =>
   have j1:¬(32:Int)<(md.attrs.length:Int):=by omega
   have j2:¬(32:Int)<(md.events.length:Int):=by omega
   have j3:(32:Int)<(md.stages.length:Int):=by omega
   go_wp2_with fail
   go_ret
   exact ⟨ret_int HE.out,HBB.out⟩
  case inr.inr.inr.inl =>
   have j1:¬(32:Int)<(md.attrs.length:Int):=by omega
   have j2:¬(32:Int)<(md.events.length:Int):=by omega
   have j3:¬(32:Int)<(md.stages.length:Int):=by omega
   have j4:(32:Int)<(md.stones.length:Int):=by omega
   go_wp2_with fail
   go_ret
   exact ⟨ret_int HE.out,HBB.out⟩
  have j1:¬(32:Int)<(md.attrs.length:Int):=by omega
  have j2:¬(32:Int)<(md.events.length:Int):=by omega
  have j3:¬(32:Int)<(md.stages.length:Int):=by omega
  have j4:¬(32:Int)<(md.stones.length:Int):=by omega
  have j5:(32:Int)<(md.apart.length:Int):=by omega
  go_wp2_with fail
  go_ret
  exact ⟨ret_int HE.out,HBB.out⟩
theorem many_of {md:ModelD} (h:¬tooMany md):manyN md<=128:=by
 unfold tooMany at h
 omega
theorem rfOrd_walk (md:ModelD) (v:ModelV) (w:World) (hz:md.Sml) (hM:ModelM false (From 0) w md v) :
  Calls Tryz.prog 12 #[.agg (v.cs md).toArray] w (OrderEnd md w):=by
 obtain ⟨w1,hw1⟩:∃w1,w.alloc (.cells (v.cs md).toArray 31)=w1:=⟨_,rfl⟩
 have hb1:Below w.heap.size w w1:=hw1▸(Below.refl _ _).alloc (Nat.le_refl _) _
 have hx1:Arr w1 w.heap.size 31 (v.cs md):=hw1▸Arr.new w (v.cs md) _
 have HM:=hid (fun W (hb:Below w1.heap.size w1 W)=>hM.grow (hb1.trans (hb.mono hb1.size)))
 have HX:=hid hx1
 have HB1:=hid hb1
 have HW1:=hid hw1
 have HZ:=hid hz
 have HC:=hid (rfCheck_walk md v w1 hz (hM.grow hb1))
 obtain ⟨q,hq⟩:∃q,checkE md=q:=⟨_,rfl⟩
 rw [hq] at HC
 have HQ:=hid hq
 obtain ⟨va1,vc1,va2,vc2,va3,vc3,va4,vc4,va5,vc5⟩:=v
 obtain ⟨y0,y1,y2,y3,y4,y5⟩:=box6 hx1 (Below.refl _ _)
 clear hM hb1 hx1 hw1 hz hq
 go_enter Tryz.func12,Tryz.ntmps12
 go_upto_region 1 with fail
 rw [HW1.out]
 go_wp2_with fail
 refine HC.out.mono ?_
 rintro e w2 ⟨rfl,hb2⟩
 have HB2:=hid hb2
 clear y0 y1 y2 y3 y4 y5 HC hb2
 obtain ⟨y0,y1,y2,y3,y4,y5⟩:=box6 HX.out HB2.out
 by_cases h0:q=0
 ·have HCZ:=hid (check_zero (HQ.out.trans h0))
  have HO:=hid (rfOrder_walk md ⟨va1,vc1,va2,vc2,va3,vc3,va4,vc4,va5,vc5⟩ w2 HZ.out ((builtB_iff md).1 HCZ.out.2.2.1) (many_of HCZ.out.2.1) (HM.out w2 HB2.out))
  have HOA:Hid (ordA md=orderL md):=by show _=_;rw [ordA,if_pos (HQ.out.trans h0)]
  subst h0
  go_wp2_with fail
  refine HO.out.mono ?_
  rintro e w5 ⟨hb5,oa,oc,rfl,hmo⟩
  have HE:Hid (OrderEnd md w (.returned (.tuple #[.slice oa (orderL md).length oc,.int .i64 0])) w5) :=
   ⟨HB1.out.trans ((HB2.out.trans (hb5.mono HB2.out.size)).mono HB1.out.size),oa,oc,by rw [HOA.out,HQ.out],by rw [HOA.out];exact hmo⟩
  clear hb5 hmo HO
  go_wp2_with fail
  first
   | refine bodyPost_end (results_tmp2 (Tryz.results12) _ _ _) rfl ?_
   | refine bodyPost_ret (results_tmp2 (Tryz.results12) _ _ _) rfl ?_
  exact HE.out
 have HE:Hid (OrderEnd md w (.returned (.tuple #[.slice none 0 0,.int .i64 q])) w2):=by
  have hoa:ordA md=[]:=by rw [ordA,if_neg (by rw [HQ.out];exact h0)]
  exact ⟨HB1.out.trans (HB2.out.mono HB1.out.size),none,0,by rw [hoa,HQ.out];rfl,by rw [hoa];exact mem_empty _ _ _⟩
 go_wp2_with fail
 first
  | refine bodyPost_end (results_tmp2 (Tryz.results12) _ _ _) rfl ?_
  | refine bodyPost_ret (results_tmp2 (Tryz.results12) _ _ _) rfl ?_
 exact HE.out
theorem atS_mem {md:ModelD} {p:Pl}:(atS md p).2=decide (p∈placesL md):=by
 have h:=mem_placesL (md:=md) (p:=p)
 unfold atS
 cases hs:senAt md p with
 | some s =>
  rw [hs] at h
  exact (decide_eq_true (h.2 rfl)).symm
 | none =>
  rw [hs] at h
  exact (decide_eq_false (fun hp=>by have:=h.1 hp;cases this)).symm
theorem mem_read0 {lo:Nat} {w:World} {v:Value} {xs:List Int} (h:IntsM lo w v xs):IntsM 0 w v xs:=Mem.weak h fun _ _ _=>Nat.zero_le _
theorem rfLeansX_walk (md:ModelD) (v:ModelV) (a b:Pl) (w:World) (hz:md.Sml) (hM:ModelM false (From 0) w md v) :
  Calls Tryz.prog 13 #[.agg (v.cs md).toArray,plV a,plV b] w (fun e w'=>e=.returned (.tuple #[.bool (leansA md a b).1,.int .i64 (leansA md a b).2])/\Below w.heap.size w w'):=by
 obtain ⟨va1,vc1,va2,vc2,va3,vc3,va4,vc4,va5,vc5⟩:=v
 obtain ⟨p0,p1,p2⟩:=a
 obtain ⟨q0,q1,q2⟩:=b
 simp only [plV]
 obtain ⟨ra,hra⟩:∃r,leansA md (p0,p1,p2) (q0,q1,q2)=r:=⟨_,rfl⟩
 rw [hra]
 have HRA:=hid hra
 clear hra
 obtain ⟨wa,hwa⟩:∃wa,w.alloc (.cells (ModelV.cs ⟨va1,vc1,va2,vc2,va3,vc3,va4,vc4,va5,vc5⟩ md).toArray 31)=wa:=⟨_,rfl⟩
 obtain ⟨w1,hw1⟩:∃w1,(wa.alloc (.cells #[.int .i64 p0,.int .i64 p1,.int .i64 p2] 33)).alloc (.cells #[.int .i64 q0,.int .i64 q1,.int .i64 q2] 33)=w1:=⟨_,rfl⟩
 have hza:wa.heap.size=w.heap.size+1:=by rw [<-hwa,size_alloc]
 have hba:Below w.heap.size w wa:=hwa▸(Below.refl _ _).alloc (Nat.le_refl _) _
 have hb1:Below w.heap.size w w1:=hw1▸(hba.alloc (by omega) _).alloc (by rw [size_alloc];omega) _
 have hxm:Arr w1 w.heap.size 31 (ModelV.cs ⟨va1,vc1,va2,vc2,va3,vc3,va4,vc4,va5,vc5⟩ md):=hw1▸((show Arr wa _ _ _ from hwa▸Arr.new w (ModelV.cs ⟨va1,vc1,va2,vc2,va3,vc3,va4,vc4,va5,vc5⟩ md) _).alloc _).alloc _
 have hxa:Arr w1 (w.heap.size+1) 33 [.int .i64 p0,.int .i64 p1,.int .i64 p2]:=hw1▸(show Arr _ (w.heap.size+1) _ _ from ⟨alloc_at (by rw [hza])⟩).alloc _
 have hxb:Arr w1 (w.heap.size+1+1) 33 [.int .i64 q0,.int .i64 q1,.int .i64 q2]:=hw1▸⟨alloc_at (by rw [size_alloc,hza])⟩
 have HM:=hid (fun W (hb:Below w1.heap.size w1 W)=>hM.grow (hb1.trans (hb.mono hb1.size)))
 have HSW:Hid (∀W',Below w1.heap.size w1 W'->W'.cell? ⟨w.heap.size,0,none⟩=some (.string md.name)/\W'.cell? ⟨w.heap.size,1,none⟩=some (.slice va1 md.attrs.length vc1)/\W'.cell? ⟨w.heap.size,2,none⟩=some (.slice va2 md.events.length vc2)/\W'.cell? ⟨w.heap.size,3,none⟩=some (.slice va3 md.stages.length vc3)/\W'.cell? ⟨w.heap.size,4,none⟩=some (.slice va4 md.stones.length vc4)/\W'.cell? ⟨w.heap.size,5,none⟩=some (.slice va5 md.apart.length vc5)/\W'.cell? ⟨w.heap.size+1,0,none⟩=some (.int .i64 p0)/\W'.cell? ⟨w.heap.size+1,1,none⟩=some (.int .i64 p1)/\W'.cell? ⟨w.heap.size+1,2,none⟩=some (.int .i64 p2)/\W'.cell? ⟨w.heap.size+1+1,0,none⟩=some (.int .i64 q0)/\W'.cell? ⟨w.heap.size+1+1,1,none⟩=some (.int .i64 q1)/\W'.cell? ⟨w.heap.size+1+1,2,none⟩=some (.int .i64 q2)):=fun W' hb=>by
  obtain ⟨m0,m1,m2,m3,m4,m5⟩:=box6 hxm hb
  exact ⟨m0,m1,m2,m3,m4,m5,cellBelow2 hb (hxa.cell (j:=0) (by simp)),cellBelow2 hb (hxa.cell (j:=1) (by simp)),cellBelow2 hb (hxa.cell (j:=2) (by simp)),cellBelow2 hb (hxb.cell (j:=0) (by simp)),cellBelow2 hb (hxb.cell (j:=1) (by simp)),cellBelow2 hb (hxb.cell (j:=2) (by simp))⟩
 have HWA:=hid hwa
 have HW1:=hid hw1
 have HB1:=hid hb1
 have HZ:=hid hz
 have HC:=hid (rfCheck_walk md ⟨va1,vc1,va2,vc2,va3,vc3,va4,vc4,va5,vc5⟩ w1 hz (hM.grow hb1))
 obtain ⟨q,hq⟩:∃q,checkE md=q:=⟨_,rfl⟩
 rw [hq] at HC
 have HQ:=hid hq
 obtain ⟨m0,m1,m2,m3,m4,m5,x0,x1,x2,z0,z1,z2⟩:=HSW.out w1 (Below.refl _ _)
 clear hM hb1 hxm hxa hxb hw1 hwa hz hq hba hza
 go_enter Tryz.func13,Tryz.ntmps13
 go_upto_region 1 with fail
 rw [HWA.out,HW1.out]
 go_wp2_with fail
 refine HC.out.mono ?_
 rintro e w2 ⟨rfl,hb2⟩
 have HB2:=hid hb2
 clear m0 m1 m2 m3 m4 m5 x0 x1 x2 z0 z1 z2 HC hb2
 obtain ⟨m0,m1,m2,m3,m4,m5,x0,x1,x2,z0,z1,z2⟩:=HSW.out w2 HB2.out
 by_cases h0:q=0
 ·have HCZ:=hid (check_zero (HQ.out.trans h0))
  have HBT:=hid ((builtB_iff md).1 HCZ.out.2.2.1)
  have HLA:Hid (leansA md (p0,p1,p2) (q0,q1,q2)=if (p0,p1,p2)∈placesL md/\(q0,q1,q2)∈placesL md then (leansB md (p0,p1,p2) (q0,q1,q2),0) else (false,2)):=by show _=_;rw [leansA,if_pos (HQ.out.trans h0)]
  have ha1:=rfAt_walk md ⟨va1,vc1,va2,vc2,va3,vc3,va4,vc4,va5,vc5⟩ (p0,p1,p2) w2 (HM.out w2 HB2.out)
  have HA2:=hid (fun W (hb:Below w1.heap.size w1 W)=>rfAt_walk md ⟨va1,vc1,va2,vc2,va3,vc3,va4,vc4,va5,vc5⟩ (q0,q1,q2) W (HM.out W hb))
  have hm1:=atS_mem (md:=md) (p:=(p0,p1,p2))
  have hm2:=atS_mem (md:=md) (p:=(q0,q1,q2))
  obtain ⟨⟨⟨t0,t1,t2⟩,r1⟩,hr1⟩:∃r,atS md (p0,p1,p2)=r:=⟨_,rfl⟩
  obtain ⟨⟨⟨u0,u1,u2⟩,r2⟩,hr2⟩:∃r,atS md (q0,q1,q2)=r:=⟨_,rfl⟩
  rw [hr1] at ha1 hm1
  rw [hr2] at hm2
  simp only [hr2] at HA2
  simp only at ha1 hm1 hm2
  have HA1:=hid ha1
  have HR1:=hid hm1
  have HR2:=hid hm2
  subst h0
  clear ha1 hm1 hm2 hr1 hr2
  go_wp2_with fail
  refine HA1.out.mono ?_
  rintro e w3 ⟨rfl,hb3⟩
  obtain ⟨w4,hw4⟩:∃w4,w3.alloc (.cells #[.int .u8 t0,.string t1,.string t2] 35)=w4:=⟨_,rfl⟩
  have HW4:=hid hw4
  have HB4:Hid (Below w1.heap.size w1 w4):=by
   have h:=HB2.out.trans (hb3.mono HB2.out.size)
   exact hw4▸h.alloc h.size _
  clear hb3 hw4 HA1 m0 m1 m2 m3 m4 m5 x0 x1 x2 z0 z1 z2
  go_upto_region 5 with fail
  rw [HW4.out]
  obtain ⟨m0,m1,m2,m3,m4,m5,x0,x1,x2,z0,z1,z2⟩:=HSW.out w4 HB4.out
  go_wp2_with fail
  refine (HA2.out _ HB4.out).mono ?_
  rintro e w5 ⟨rfl,hb5⟩
  obtain ⟨w6,hw6⟩:∃w6,w5.alloc (.cells #[.int .u8 u0,.string u1,.string u2] 35)=w6:=⟨_,rfl⟩
  have HW6:=hid hw6
  have HB6:Hid (Below w1.heap.size w1 w6):=by
   have h:=HB4.out.trans (hb5.mono HB4.out.size)
   exact hw6▸h.alloc h.size _
  clear hb5 hw6 HA2 m0 m1 m2 m3 m4 m5 x0 x1 x2 z0 z1 z2
  go_upto_region 6 with fail
  rw [HW6.out]
  have HBB:=hid (HB1.out.trans (HB6.out.mono HB1.out.size))
  cases r1 with
  | false =>
   have HE:Hid ((false,2)=ra):=by
    show _=_
    rw [<-HRA.out,HLA.out,if_neg (fun h=>by have:=HR1.out;rw [eq_comm,decide_eq_false_iff_not] at this;exact this h.1)]
   go_wp2_with fail
   try simp only [Exit.inBlock,Exit.then]
   refine bodyPost_ret (results_tmp2 (Tryz.results13) _ _ _) rfl ?_
   exact ⟨ret_two HE.out,HBB.out⟩
  | true =>
   cases r2 with
   | false =>
    have HE:Hid ((false,2)=ra):=by
     show _=_
     rw [<-HRA.out,HLA.out,if_neg (fun h=>by have:=HR2.out;rw [eq_comm,decide_eq_false_iff_not] at this;exact this h.2)]
    go_wp2_with fail
    try simp only [Exit.inBlock,Exit.then]
    refine bodyPost_ret (results_tmp2 (Tryz.results13) _ _ _) rfl ?_
    exact ⟨ret_two HE.out,HBB.out⟩
   | true =>
     have h1:(p0,p1,p2)∈placesL md:=of_decide_eq_true HR1.out.symm
     have h2:(q0,q1,q2)∈placesL md:=of_decide_eq_true HR2.out.symm
     obtain ⟨rr,hrr⟩:∃r,leansB md (p0,p1,p2) (q0,q1,q2)=r:=⟨_,rfl⟩
     have HE:Hid ((rr,0)=ra):=by
      show _=_
      rw [<-HRA.out,HLA.out,if_pos ⟨h1,h2⟩,hrr]
     obtain ⟨s,hs,-⟩:=leansB_at h1 (q0,q1,q2)
     have HIN:=hid (inOk_of HBT.out)
     have HLN:Hid (∀W,Below w6.heap.size w6 W->Calls Tryz.prog 26 #[.agg (ModelV.cs ⟨va1,vc1,va2,vc2,va3,vc3,va4,vc4,va5,vc5⟩ md).toArray,.agg #[.int .i64 p0,.int .i64 p1,.int .i64 p2]] W (LeanEnd md (p0,p1,p2) s W)):=fun W hb =>
      rfLean_walk md ⟨va1,vc1,va2,vc2,va3,vc3,va4,vc4,va5,vc5⟩ (p0,p1,p2) s W HZ.out hs (place_stage h1) (cond_of HBT.out _ _ hs) (HM.out W (HB6.out.trans (hb.mono HB6.out.size)))
     have HON:Hid (∀(x:LeanD) sa ta sn sc tn tc (W0:World),LeanOf md (p0,p1,p2) s x->(∀i∈x.stages,-1<=i/\i<md.stages.length)->x.stages.length<=60000->x.stones.length<=60000->∀ {lo:Nat},IntsM lo W0 (.slice sa sn sc) x.stages->IntsM lo W0 (.slice ta tn tc) x.stones->Below w6.heap.size w6 W0->∀W,Below W0.heap.size W0 W ->
       Calls Tryz.prog 25 #[.agg (ModelV.cs ⟨va1,vc1,va2,vc2,va3,vc3,va4,vc4,va5,vc5⟩ md).toArray,.agg #[.int .u8 x.on,.string x.name,.string x.cond,.int .i64 x.inn,.slice sa sn sc,.slice ta tn tc],.agg #[.int .i64 q0,.int .i64 q1,.int .i64 q2]] W (fun e w'=>e=.returned (.bool rr)/\Below W.heap.size W w')):=fun x sa ta sn sc tn tc W0 hOf hst h6 h7 lo hS hT hb0 W hb=>by
      have hok:LeanOk md (p0,p1,p2) x:=⟨⟨s,hs,hOf⟩,leanOf_inn HIN.out (place_stage h1) hOf,hst,h6,h7⟩
      have hb6:=hb0.trans (hb.mono hb0.size)
      have h:=rfOn_walk md ⟨va1,vc1,va2,vc2,va3,vc3,va4,vc4,va5,vc5⟩ x (q0,q1,q2) sa ta sn sc tn tc W HZ.out HIN.out hok.inn hst h6 h7 ((mem_read0 hS).grow hb) ((mem_read0 hT).grow hb) (HM.out W (HB6.out.trans (hb6.mono HB6.out.size)))
      rw [hok.leans,hrr] at h
      exact h
     clear h1 h2 hs hrr
     go_upto_region 8 with fail
     refine wp_region_held_drew (S:=(fun W'=>Below w6.heap.size w6 W')) (by kernel_rfl) (Below.refl w6.heap.size w6).drew (fun hH=>?_)
     generalize w6.drew=wz at hH ⊢
     refine tK (i:=0) (oi:=⟨some 36,.load 31 (.tmp 3),31,"ref.go:356",#[],none⟩) (v:=.agg #[.string md.name,.slice va1 md.attrs.length vc1,.slice va2 md.events.length vc2,.slice va3 md.stages.length vc3,.slice va4 md.stones.length vc4,.slice va5 md.apart.length vc5]) (Or.inl ⟨by rfl,fun W hS=>by obtain ⟨m0,m1,m2,m3,m4,m5,x0,x1,x2,z0,z1,z2⟩:=HSW.out W (HB6.out.trans (hS.mono HB6.out.size));go_simp⟩) hH ?_
     refine tK (i:=1) (oi:=⟨some 37,.load 31 (.tmp 3),31,"ref.go:356",#[],none⟩) (v:=.agg #[.string md.name,.slice va1 md.attrs.length vc1,.slice va2 md.events.length vc2,.slice va3 md.stages.length vc3,.slice va4 md.stones.length vc4,.slice va5 md.apart.length vc5]) (Or.inl ⟨by rfl,fun W hS=>by obtain ⟨m0,m1,m2,m3,m4,m5,x0,x1,x2,z0,z1,z2⟩:=HSW.out W (HB6.out.trans (hS.mono HB6.out.size));go_simp⟩) hH ?_
     refine tK (i:=2) (oi:=⟨some 38,.load 33 (.tmp 4),33,"ref.go:356",#[],none⟩) (v:=.agg #[.int .i64 p0,.int .i64 p1,.int .i64 p2]) (Or.inl ⟨by rfl,fun W hS=>by obtain ⟨m0,m1,m2,m3,m4,m5,x0,x1,x2,z0,z1,z2⟩:=HSW.out W (HB6.out.trans (hS.mono HB6.out.size));go_simp⟩) hH ?_
     refine tK (i:=4) (oi:=⟨some 40,.load 33 (.tmp 5),33,"ref.go:356",#[],none⟩) (v:=.agg #[.int .i64 q0,.int .i64 q1,.int .i64 q2]) (Or.inl ⟨by rfl,fun W hS=>by obtain ⟨m0,m1,m2,m3,m4,m5,x0,x1,x2,z0,z1,z2⟩:=HSW.out W (HB6.out.trans (hS.mono HB6.out.size));go_simp⟩) hH ?_
     refine rD [3] ?_
     refine AllReadyH.cons rfl (fun K hK=>?_) AllReadyH.nil
     go_simp
     go_at_call 26
     refine (HLN.out _ hH).mono ?_
     rintro e W7 ⟨hb,⟨xon,xnm,xcd,xi,xst,xso⟩,sa,sn,sc,ta,tn,tc,rfl,hS,hT,hOf,hst,h6,h7⟩
     obtain rfl:xon=s.on:=hOf.on
     obtain rfl:xnm=s.name:=hOf.name
     obtain rfl:xcd=s.cond:=hOf.cond
     have HCN:=hid (HON.out _ sa ta sn sc tn tc W7 hOf hst h6 h7 hS hT (hH.trans (hb.mono hH.size)))
     have HB7:=hid hb
     clear hb hS hT hOf hst h6 h7
     go_wp2_with fail
     refine kK hK (hH.trans (HB7.out.mono hH.size)) (fun hH=>?_)
     clear hK K
     refine rD [5] ?_
     refine AllReadyH.cons rfl (fun K hK=>?_) AllReadyH.nil
     go_simp
     go_at_call 25
     refine (HCN.out _ (Below.refl _ _)).mono ?_
     rintro e W8 ⟨rfl,hb⟩
     have hH8:=hH.trans (hb.mono hH.size)
     clear hb
     go_wp2_with fail
     refine kK hK hH8 (fun hH=>?_)
     clear hK K
     refine tK (i:=6) (oi:=⟨some 6,.assign (.tmp 41),4,"ref.go:356",#[⟨5,.data⟩,⟨5,.chain⟩,⟨0,.phase⟩,⟨1,.phase⟩,⟨2,.phase⟩,⟨3,.phase⟩,⟨4,.phase⟩,⟨5,.phase⟩],none⟩) (v:=.bool rr) (Or.inl ⟨by rfl,fun W hS=>by go_simp⟩) hH ?_
     refine tK (i:=7) (oi:=⟨some 7,.assign (.const (.int .i64 0)),3,"ref.go:356",#[⟨6,.chain⟩,⟨0,.phase⟩,⟨1,.phase⟩,⟨2,.phase⟩,⟨3,.phase⟩,⟨4,.phase⟩,⟨5,.phase⟩,⟨6,.phase⟩],none⟩) (v:=.int .i64 0) (Or.inl ⟨by rfl,fun W hS=>by go_simp⟩) hH ?_
     refine wpAnyH_done (by kernel_rfl) ?_ _
     go_wp2_with fail
     try simp only [Exit.inBlock,Exit.then]
     refine bodyPost_ret (results_tmp2 (Tryz.results13) _ _ _) rfl ?_
     exact ⟨ret_two HE.out,HB1.out.trans ((HB6.out.trans (hH.mono HB6.out.size)).mono HB1.out.size)⟩
 have HE:Hid ((false,q)=ra):=by
  show _=_
  rw [<-HRA.out,leansA,if_neg (by rw [HQ.out];exact h0),HQ.out]
 have HBB:=hid (HB1.out.trans (HB2.out.mono HB1.out.size))
 go_wp2_with fail
 try simp only [Exit.inBlock,Exit.then]
 refine bodyPost_ret (results_tmp2 (Tryz.results13) _ _ _) rfl ?_
 exact ⟨ret_two HE.out,HBB.out⟩
def mzM:ByteArray:=⟨#[109]⟩
def mzGo:ByteArray:=⟨#[103,111]⟩
def mzA:ByteArray:=⟨#[97]⟩
def mzB:ByteArray:=⟨#[98]⟩
def mzX:ByteArray:=⟨#[120]⟩
def mzE:ByteArray:=⟨#[]⟩
def mzOp:ByteArray:=⟨#[111,112,101,110]⟩
def smD (nm:ByteArray) (s0:SentryD) (inn:Int):ModelD:={ name:=nm,attrs:=[],events:=[mzGo],stages:=[{ name:=mzA,inn:=-1,opens:=[s0],closes:=[],role:=mzE,aft:=0,event:=mzE },{ name:=mzB,inn:=inn,opens:=[⟨2,mzA,mzE⟩],closes:=[],role:=mzE,aft:=0,event:=mzE }],stones:=[],apart:=[] }
def smV (g1 g2:Nat):ModelV:=⟨none,0,some ⟨g1,0,none⟩,1,some ⟨g2,0,none⟩,2,none,0,none,0⟩
structure SmM (w:World) (s0:SentryD) (inn:Int) (g1 g2 g3 g4:Nat):Prop where
 ev:Arr w g1 9 [.string mzGo]
 st:Arr w g2 38 [.string mzA,.int .i64 (-1),.slice (some ⟨g3,0,none⟩) 1 1,.slice none 0 0,.string mzE,.int .i64 0,.string mzE,.string mzB,.int .i64 inn,.slice (some ⟨g4,0,none⟩) 1 1,.slice none 0 0,.string mzE,.int .i64 0,.string mzE]
 a:Arr w g3 35 [.int .u8 s0.on,.string s0.name,.string s0.cond]
 b:Arr w g4 35 [.int .u8 2,.string mzA,.string mzE]
def SmallEnd (w:World) (e:Ending) (w':World):Prop:=Below w.heap.size w w'/\∃g1 g2 g3 g4,e=.returned (.agg ((smV g1 g2).cs (smD mzM ⟨1,mzGo,mzE⟩ 0)).toArray)/\SmM w' ⟨1,mzGo,mzE⟩ 0 g1 g2 g3 g4/\(w.heap.size<=g1/\w.heap.size<=g2/\w.heap.size<=g3/\w.heap.size<=g4)/\g2≠g3/\g2≠g4/\g3≠g4/\g1≠g2/\g1≠g3/\g1≠g4
theorem rec_arr {w:World} {g:Nat} {E:TypeId} {k:Nat} {es:List (List D)} {vs:List (List Value)} (h:Arr w g E vs.flatten) (hg:g<w.heap.size) (hl:vs.length=es.length) (hw:∀v∈vs,v.length=k) (hwe:∀e∈es,e.length=k)
  (hm:∀j (h1:j<es.length) (h2:j<vs.length),MemL false (From 0) w es[j] vs[j]):Mem false (From 0) w (.list k es) (.slice (some ⟨g,0,none⟩) es.length es.length):=by
 rw [<-hl]
 refine .list k es vs (some ⟨g,0,none⟩) vs.length g 0 hl (Nat.le_refl _) (fun _=>⟨rfl,Nat.zero_le _,hg⟩) (fun j v hj=>hw v (List.mem_of_getElem? hj)) (fun j e hj=>hwe e (List.mem_of_getElem? hj)) (fun j v i u hj hi=>⟨?_,fun h=>by cases h⟩) (fun j v e i u d hj he hi hd=>?_)
 ·have hj':=lt_of_some hj
  rw [List.getElem?_eq_getElem hj'] at hj
  injection hj with hj
  have hi':=lt_of_some hi
  have hwv:=hw v (hj▸List.getElem_mem hj')
  have hfl:=flat_at vs hw j i hj' (by omega)
  rw [hj,hi] at hfl
  have hlt:=lt_of_some hfl
  rw [List.getElem?_eq_getElem hlt] at hfl
  injection hfl with hfl
  rw [Nat.zero_add,<-hfl]
  exact h.cell hlt
 have hj1:=lt_of_some hj
 have hj2:=lt_of_some he
 have hm':=hm j hj2 hj1
 rw [List.getElem?_eq_getElem hj1] at hj
 rw [List.getElem?_eq_getElem hj2] at he
 injection hj with hj;injection he with he
 subst hj he
 exact hm'.2 i d u hd hi
theorem flat_arr {α:Type} {w:World} {g:Nat} {E:TypeId} {k:Nat} {f:α->List Value} {xs:List α} (h:Arr w g E (xs.map f).flatten) (hg:g<w.heap.size) (hf:∀x,(f x).length=k):Mem false (From 0) w (flatL k f xs) (.slice (some ⟨g,0,none⟩) xs.length xs.length):=by
 have:=rec_arr (es:=xs.map fun x=>(f x).map D.atom) h hg (by simp) (by
  intro v hv
  obtain ⟨x,-,rfl⟩:=List.mem_map.1 hv
  exact hf x) (by
  intro e he
  obtain ⟨x,-,rfl⟩:=List.mem_map.1 he
  rw [List.length_map];exact hf x) (fun j h1 h2=>by
  rw [List.getElem_map,List.getElem_map]
  exact atoms_memL false (From 0) w _)
 rw [List.length_map] at this
 exact this
theorem SmM.mem {w:World} {nm:ByteArray} {s0:SentryD} {inn:Int} {g1 g2 g3 g4:Nat} (h:SmM w s0 inn g1 g2 g3 g4):ModelM false (From 0) w (smD nm s0 inn) (smV g1 g2):=by
 have hN:∀ {α:Type} (k:Nat) (f:α->List Value),Mem false (From 0) w (flatL k f []) (.slice none 0 0):=fun k f =>
  .list k [] [] none 0 0 0 rfl (Nat.le_refl _) (fun h=>absurd h (by simp)) (fun j v h=>absurd h (by simp)) (fun j e h=>absurd h (by simp)) (fun j v i u h=>absurd h (by simp)) (fun j v e i u d h=>absurd h (by simp))
 have hA:Mem false (From 0) w (senD [s0]) (.slice (some ⟨g3,0,none⟩) 1 1):=flat_arr (xs:=[s0]) h.a h.a.lt (fun _=>rfl)
 have hB:Mem false (From 0) w (senD [⟨2,mzA,mzE⟩]) (.slice (some ⟨g4,0,none⟩) 1 1):=flat_arr (xs:=[(⟨2,mzA,mzE⟩:SentryD)]) h.b h.b.lt (fun _=>rfl)
 refine ⟨hN 2 AttrD.cs,flat_arr (xs:=[mzGo]) h.ev h.ev.lt (fun _=>rfl),?_,?_,hN 2 pairC⟩
 ·refine rec_arr (es:=[_,_]) (vs:=[[.string mzA,.int .i64 (-1),.slice (some ⟨g3,0,none⟩) 1 1,.slice none 0 0,.string mzE,.int .i64 0,.string mzE],[.string mzB,.int .i64 inn,.slice (some ⟨g4,0,none⟩) 1 1,.slice none 0 0,.string mzE,.int .i64 0,.string mzE]]) h.st h.st.lt rfl (by simp) ?_ ?_
  ·intro e he
   simp only [List.mem_cons,List.not_mem_nil,or_false] at he
   rcases he with rfl | rfl<;>rfl
  intro j h1 h2
  match j,h1 with
  | 0,_=>exact MemL.cons (.atom _) (MemL.cons (.atom _) (MemL.cons hA (MemL.cons (hN 3 SentryD.cs) (MemL.cons (.atom _) (MemL.cons (.atom _) (MemL.cons (.atom _) (MemL.nil _ _ _)))))))
  | 1,_=>exact MemL.cons (.atom _) (MemL.cons (.atom _) (MemL.cons hB (MemL.cons (hN 3 SentryD.cs) (MemL.cons (.atom _) (MemL.cons (.atom _) (MemL.cons (.atom _) (MemL.nil _ _ _)))))))
  | j+2,h1=>simp at h1;omega
 exact .list 3 [] [] none 0 0 0 rfl (Nat.le_refl _) (fun h=>absurd h (by simp)) (fun j v h=>absurd h (by simp)) (fun j e h=>absurd h (by simp)) (fun j v i u h=>absurd h (by simp)) (fun j v e i u d h=>absurd h (by simp))
abbrev pA:Pl:=(1,0,0)
abbrev pB:Pl:=(1,1,0)
def smOne:ModelD:=smD mzM ⟨1,mzGo,mzE⟩ 0
def smLoop:ModelD:=smD mzM ⟨2,mzB,mzE⟩ 0
def smIn:ModelD:=smD mzM ⟨1,mzGo,mzE⟩ 1
def smGd:ModelD:=smD mzM ⟨1,mzGo,mzX⟩ 0
def smNm:ModelD:=smD mzOp ⟨1,mzGo,mzE⟩ 0
end Go.Proofs.YtfbbkmdhnkmonaaGreatDoor
namespace Go.Proofs.YtfbbkmdhnkmonaaGreatDoor
open Go.RowKit
end Go.Proofs.YtfbbkmdhnkmonaaGreatDoor
namespace Go.Proofs.YtfbbkmdhnkmonaaGreatDoor
open Go.RowKit
theorem size_walk (l:List SentryD) (a:Option Addr) (c:Nat) (w:World) (hl:l.length<=1048576) (h:Mem false (From 0) w (senD l) (.slice a l.length c)) :
  Calls Tryz.prog 22 #[.slice a l.length c] w (fun e w'=>(∃k,e=.returned (.int .i64 k))/\Below w.heap.size w w'):=by
 obtain ⟨_,_,b,off,hv,-,hC⟩:=flat_open h
 injection hv with e1 e2 e3
 subst e1 e3
 have HC:=hid hC
 clear h hC e2
 go_enter Tryz.func22,Tryz.ntmps22
 go_wp2_with fail
 go_loopw [3,4] (fun s i wr=>∃(m:Nat) (k:Int),m<=l.length/\i=.int .i64 (m:Int)/\s=.int .i64 k/\Hid (Below w.heap.size w wr)) (fun _ i _=>l.length-(intOf i).toNat)
 case atStart=>exact ⟨0,0,Nat.zero_le _,rfl,rfl,Below.refl _ _⟩
 obtain ⟨m,k,hml,rfl,rfl,HB⟩:=hrel
 by_cases hlt:m<l.length
 ·have i1:(m:Int)<(l.length:Int):=by omega
  have i2:(0:Int)<=(m:Int):=by omega
  have HML:=hid hlt
  by_cases hk:k<100000
  ·obtain ⟨rfl,-,hbl⟩:=HC.out.at0 (by omega)
   have c1:wr.cell? ⟨b,off+m*3+1,none⟩=some (.string (l[m]'hlt).name):=cellBelow2 HB.out (HC.out.cell m hlt 1 _ rfl)
   have c2:wr.cell? ⟨b,off+m*3+2,none⟩=some (.string (l[m]'hlt).cond):=cellBelow2 HB.out (HC.out.cell m hlt 2 _ rfl)
   obtain ⟨s1,hs1⟩:∃s,(l[m]'hlt).name=s:=⟨_,rfl⟩
   obtain ⟨s2,hs2⟩:∃s,(l[m]'hlt).cond=s:=⟨_,rfl⟩
   rw [hs1] at c1
   rw [hs2] at c2
   have HS:Hid (wr.drew.cell? ⟨b,off+m*3+1,none⟩=some (.string s1)/\wr.drew.cell? ⟨b,off+m*3+2,none⟩=some (.string s2)):=⟨c1,c2⟩
   have HBD:=hid (HB.out.drew)
   have k3:IntKind.i64.wrap ((m:Int)+1)=(m:Int)+1:=wrap_i64 (by omega) (by omega)
   clear hs1 hs2 hbl
   go_upto_region 5 with fail
   go_region_held3 (fun W'=>W'.cell? ⟨b,off+m*3+1,none⟩=some (.string s1)/\W'.cell? ⟨b,off+m*3+2,none⟩=some (.string s2)) (exact HS.out) (fail)
   go_wp2_with fail
   refine ⟨⟨m+1,_,by have:=HML.out;omega,by go_num,rfl,HBD.out⟩,by simp only [intOf];have:=HML.out;omega⟩
  go_wp2_with fail
  go_ret
  exact ⟨⟨_,rfl⟩,HB.out⟩
 have i1:¬(m:Int)<(l.length:Int):=by omega
 go_wp2_with fail
 go_ret
 exact ⟨⟨_,rfl⟩,HB.out⟩
def GreatEnd (w:World) (e:Ending) (w':World):Prop:=(∃r,e=.returned (.bool r))/\Below w.heap.size w w'
theorem great_walk (md:ModelD) (v:ModelV) (w:World) (hz:md.Sml) (hM:ModelM false (From 0) w md v) :
  Calls Tryz.prog 10 #[.agg (v.cs md).toArray] w (GreatEnd w):=by
 obtain ⟨w1,hw1⟩:∃w1,w.alloc (.cells (v.cs md).toArray 31)=w1:=⟨_,rfl⟩
 have hb1:Below w.heap.size w w1:=hw1▸(Below.refl _ _).alloc (Nat.le_refl _) _
 have hx1:Arr w1 w.heap.size 31 (v.cs md):=hw1▸Arr.new w (v.cs md) _
 have HM:=hid (fun W (hb:Below w1.heap.size w1 W)=>hM.grow (hb1.trans (hb.mono hb1.size)))
 have HX:=hid hx1
 have HB1:=hid hb1
 have HW1:=hid hw1
 have HZ:=hid hz
 have hal:=hz.attrs
 have hel:=hz.events
 have hsl:=hz.stages
 have htl:=hz.stones
 have hpl:=hz.apart
 obtain ⟨va1,vc1,va2,vc2,va3,vc3,va4,vc4,va5,vc5⟩:=v
 obtain ⟨y0,y1,y2,y3,y4,y5⟩:=box6 hx1 (Below.refl _ _)
 clear hM hb1 hx1 hw1 hz
 go_enter Tryz.func10,Tryz.ntmps10
 go_upto_region 1 with fail
 rw [HW1.out]
 have hcase:100<md.attrs.length\/(¬100<md.attrs.length/\100<md.events.length)\/(¬100<md.attrs.length/\¬100<md.events.length/\100<md.stages.length)\/(¬100<md.attrs.length/\¬100<md.events.length/\¬100<md.stages.length/\100<md.stones.length) \/
   (¬100<md.attrs.length/\¬100<md.events.length/\¬100<md.stages.length/\¬100<md.stones.length/\100<md.apart.length)\/(¬100<md.attrs.length/\¬100<md.events.length/\¬100<md.stages.length/\¬100<md.stones.length/\¬100<md.apart.length):=by omega
 rcases hcase with h1 | ⟨h1,h2⟩ | ⟨h1,h2,h3⟩ | ⟨h1,h2,h3,h4⟩ | ⟨h1,h2,h3,h4,h5⟩ | ⟨h1,h2,h3,h4,h5⟩
 case inl =>
  have j1:(100:Int)<(md.attrs.length:Int):=by omega
  go_wp2_with fail
  go_ret
  exact ⟨⟨_,rfl⟩,HB1.out⟩
 case inr.inl =>
  have j1:¬(100:Int)<(md.attrs.length:Int):=by omega
  have j2:(100:Int)<(md.events.length:Int):=by omega
  go_wp2_with fail
  go_ret
  exact ⟨⟨_,rfl⟩,HB1.out⟩
 case inr.inr.inl =>
  have j1:¬(100:Int)<(md.attrs.length:Int):=by omega
  have j2:¬(100:Int)<(md.events.length:Int):=by omega
  have j3:(100:Int)<(md.stages.length:Int):=by omega
  go_wp2_with fail
  go_ret
  exact ⟨⟨_,rfl⟩,HB1.out⟩
 case inr.inr.inr.inl =>
  have j1:¬(100:Int)<(md.attrs.length:Int):=by omega
  have j2:¬(100:Int)<(md.events.length:Int):=by omega
  have j3:¬(100:Int)<(md.stages.length:Int):=by omega
  have j4:(100:Int)<(md.stones.length:Int):=by omega
  go_wp2_with fail
  go_ret
  exact ⟨⟨_,rfl⟩,HB1.out⟩
 case inr.inr.inr.inr.inl =>
  have j1:¬(100:Int)<(md.attrs.length:Int):=by omega
  have j2:¬(100:Int)<(md.events.length:Int):=by omega
  have j3:¬(100:Int)<(md.stages.length:Int):=by omega
  have j4:¬(100:Int)<(md.stones.length:Int):=by omega
  have j5:(100:Int)<(md.apart.length:Int):=by omega
  go_wp2_with fail
  go_ret
  exact ⟨⟨_,rfl⟩,HB1.out⟩
 have j1:¬(100:Int)<(md.attrs.length:Int):=by omega
 have j2:¬(100:Int)<(md.events.length:Int):=by omega
 have j3:¬(100:Int)<(md.stages.length:Int):=by omega
 have j4:¬(100:Int)<(md.stones.length:Int):=by omega
 have j5:¬(100:Int)<(md.apart.length:Int):=by omega
 go_upto_block 0 with fail
 clear j1 j2 j3 j4 j5 h1 h2 h3 h4 h5
 go_cut [3] (fun t wx=>(∃k,t=.int .i64 k)/\Hid (Below w1.heap.size w1 wx))
 case first =>
  go_wp2_with fail
  go_loopw [3,4] (fun s i wr=>∃(m:Nat) (k:Int),m<=md.attrs.length/\i=.int .i64 (m:Int)/\s=.int .i64 k/\Hid (Below w1.heap.size w1 wr)) (fun _ i _=>md.attrs.length-(intOf i).toNat)
  case atStart=>exact ⟨0,_,Nat.zero_le _,rfl,rfl,Below.refl _ _⟩
  obtain ⟨m,k,hml,rfl,rfl,HB⟩:=hrel
  clear y0 y1 y2 y3 y4 y5
  obtain ⟨y0,y1,y2,y3,y4,y5⟩:=box6 HX.out HB.out
  by_cases hlt:m<md.attrs.length
  ·have i1:(m:Int)<(md.attrs.length:Int):=by omega
   have i2:(0:Int)<=(m:Int):=by omega
   have HML:=hid hlt
   obtain ⟨_,_,b,off,hvv,-,hC⟩:=flat_open (HM.out wr HB.out).attrs
   injection hvv with e1 e2 e3
   subst e1 e3
   obtain ⟨ha,-,hbl⟩:=hC.at0 (by omega)
   obtain rfl:va1=some ⟨b,off,none⟩:=ha
   have c0:wr.cell? ⟨b,off+m*2,none⟩=some (.string (md.attrs[m]'hlt).name):=hC.cell m hlt 0 _ rfl
   have k3:IntKind.i64.wrap ((m:Int)+1)=(m:Int)+1:=wrap_i64 (by omega) (by omega)
   clear hC e2 hbl
   go_wp2_with fail
   refine ⟨⟨m+1,_,by have:=HML.out;omega,by go_num,rfl,HB.out⟩,by simp only [intOf];have:=HML.out;omega⟩
  have i1:¬(m:Int)<(md.attrs.length:Int):=by omega
  go_wp2_with fail
  go_meet
  exact ⟨⟨_,rfl⟩,HB.out⟩
 obtain ⟨⟨k0,rfl⟩,HBc⟩:=hcut
 clear y0 y1 y2 y3 y4 y5
 obtain ⟨y0,y1,y2,y3,y4,y5⟩:=box6 HX.out HBc.out
 go_upto_block 2 with fail
 go_cut [3] (fun t wx=>(∃k,t=.int .i64 k)/\Hid (Below w1.heap.size w1 wx))
 case first =>
  go_wp2_with fail
  go_loopw [3,5] (fun s i wr=>∃(m:Nat) (k:Int),m<=md.events.length/\i=.int .i64 (m:Int)/\s=.int .i64 k/\Hid (Below w1.heap.size w1 wr)) (fun _ i _=>md.events.length-(intOf i).toNat)
  case atStart=>exact ⟨0,_,Nat.zero_le _,rfl,rfl,HBc.out⟩
  obtain ⟨m,k,hml,rfl,rfl,HB⟩:=hrel
  clear y0 y1 y2 y3 y4 y5
  obtain ⟨y0,y1,y2,y3,y4,y5⟩:=box6 HX.out HB.out
  by_cases hlt:m<md.events.length
  ·have i1:(m:Int)<(md.events.length:Int):=by omega
   have i2:(0:Int)<=(m:Int):=by omega
   have HML:=hid hlt
   obtain ⟨_,_,b,off,hvv,-,hC⟩:=flat_open (HM.out wr HB.out).events
   injection hvv with e1 e2 e3
   subst e1 e3
   obtain ⟨ha,-,hbl⟩:=hC.at0 (by omega)
   obtain rfl:va2=some ⟨b,off,none⟩:=ha
   have c0:wr.cell? ⟨b,off+m,none⟩=some (.string (md.events[m]'hlt)):=by have:=hC.cell m hlt 0 _ rfl;simpa using this
   have k3:IntKind.i64.wrap ((m:Int)+1)=(m:Int)+1:=wrap_i64 (by omega) (by omega)
   clear hC e2 hbl
   go_wp2_with fail
   refine ⟨⟨m+1,_,by have:=HML.out;omega,by go_num,rfl,HB.out⟩,by simp only [intOf];have:=HML.out;omega⟩
  have i1:¬(m:Int)<(md.events.length:Int):=by omega
  go_wp2_with fail
  go_meet
  exact ⟨⟨_,rfl⟩,HB.out⟩
 obtain ⟨⟨k1,rfl⟩,HBc⟩:=hcut
 clear y0 y1 y2 y3 y4 y5
 obtain ⟨y0,y1,y2,y3,y4,y5⟩:=box6 HX.out HBc.out
 go_upto_block 4 with fail
 go_cut [3] (fun t wx=>(∃k,t=.int .i64 k)/\Hid (Below w1.heap.size w1 wx))
 case first =>
  go_wp2_with fail
  go_loopw [3,6] (fun s i wr=>∃(m:Nat) (k:Int),m<=md.stages.length/\i=.int .i64 (m:Int)/\s=.int .i64 k/\Hid (Below w1.heap.size w1 wr)) (fun _ i _=>md.stages.length-(intOf i).toNat)
  case atStart=>exact ⟨0,_,Nat.zero_le _,rfl,rfl,HBc.out⟩
  obtain ⟨m,k,hml,rfl,rfl,HB⟩:=hrel
  clear y0 y1 y2 y3 y4 y5
  obtain ⟨y0,y1,y2,y3,y4,y5⟩:=box6 HX.out HB.out
  by_cases hlt:m<md.stages.length
  ·have i1:(m:Int)<(md.stages.length:Int):=by omega
   have i2:(0:Int)<=(m:Int):=by omega
   have HML:=hid hlt
   obtain ⟨b,off,ha,hbl,d1,e1,d2,e2,s1,s2,c0,c1,c2,c3,c4,c5,c6⟩:=stage_at (HM.out wr HB.out) hlt
   obtain rfl:va3=some ⟨b,off,none⟩:=ha
   have hin:=HZ.out.inS _ (List.getElem_mem hlt)
   obtain ⟨sd,hsd⟩:∃sd,md.stages[m]'hlt=sd:=⟨_,rfl⟩
   rw [hsd] at c0 c1 c2 c3 c4 c5 c6 s1 s2 hin
   obtain ⟨sn,si,so,scl,sr,sa,se⟩:=sd
   simp only at c0 c1 c2 c3 c4 c5 c6 s1 s2 hin
   obtain ⟨ws,hws⟩:∃ws,wr.alloc (.cells #[.string sn,.int .i64 si,.slice d1 so.length e1,.slice d2 scl.length e2,.string sr,.int .i64 sa,.string se] 38)=ws:=⟨_,rfl⟩
   have hbs:Below wr.heap.size wr ws:=hws▸(Below.refl _ _).alloc (Nat.le_refl _) _
   have hxs:Arr ws wr.heap.size 38 [.string sn,.int .i64 si,.slice d1 so.length e1,.slice d2 scl.length e2,.string sr,.int .i64 sa,.string se]:=hws▸Arr.new wr _ _
   have HS1:=hid (fun W (hb:Below ws.heap.size ws W)=>size_walk so d1 e1 W hin.1 ((s1.grow hbs).grow hb))
   have HS2:=hid (fun W (hb:Below ws.heap.size ws W)=>size_walk scl d2 e2 W hin.2 ((s2.grow hbs).grow hb))
   have HSW:Hid (∀W,Below ws.heap.size ws W->Below ws.heap.size ws W/\W.cell? ⟨wr.heap.size,0,none⟩=some (.string sn)/\W.cell? ⟨wr.heap.size,2,none⟩=some (.slice d1 so.length e1)/\W.cell? ⟨wr.heap.size,3,none⟩=some (.slice d2 scl.length e2)/\W.cell? ⟨wr.heap.size,4,none⟩=some (.string sr)/\W.cell? ⟨wr.heap.size,6,none⟩=some (.string se)):=fun W hb =>
    ⟨hb,cellBelow2 hb (hxs.cell (j:=0) (by simp)),cellBelow2 hb (hxs.cell (j:=2) (by simp)),cellBelow2 hb (hxs.cell (j:=3) (by simp)),cellBelow2 hb (hxs.cell (j:=4) (by simp)),cellBelow2 hb (hxs.cell (j:=6) (by simp))⟩
   have HBS:=hid (HB.out.trans (hbs.mono HB.out.size))
   have hq0:=(Below.refl ws.heap.size ws).drew
   have HWS:=hid hws
   have k3:IntKind.i64.wrap ((m:Int)+1)=(m:Int)+1:=wrap_i64 (by omega) (by omega)
   clear s1 s2 hin hsd hws hbs hxs hbl
   go_upto_region 16 with fail
   rw [HWS.out]
   clear c0 c1 c2 c3 c4 c5 c6 y0 y1 y2 y3 y4 y5
   go_region_held3 (fun W=>Below ws.heap.size ws W/\W.cell? ⟨wr.heap.size,0,none⟩=some (.string sn)/\W.cell? ⟨wr.heap.size,2,none⟩=some (.slice d1 so.length e1)/\W.cell? ⟨wr.heap.size,3,none⟩=some (.slice d2 scl.length e2)/\W.cell? ⟨wr.heap.size,4,none⟩=some (.string sr)/\W.cell? ⟨wr.heap.size,6,none⟩=some (.string se))
    (first | exact HSW.out _ hq0 | exact HSW.out _ hq1 | exact HSW.out _ hq2)
    (first
     | (go_at_call 22;refine (HS1.out _ hq0).mono ?_;rintro e W1 ⟨⟨k1,rfl⟩,hb⟩;have hq1:=hq0.trans (hb.mono hq0.size);clear hb HS1)
     | (go_at_call 22;refine (HS2.out _ hq1).mono ?_;rintro e W2 ⟨⟨k2,rfl⟩,hb⟩;have hq2:=hq1.trans (hb.mono hq1.size);clear hb HS2))
   have HBE:=hid (HBS.out.trans (hq2.mono HBS.out.size))
   clear hq0 hq1 hq2
   go_wp2_with fail
   refine ⟨⟨m+1,_,by have:=HML.out;omega,by go_num,rfl,HBE.out⟩,by simp only [intOf];have:=HML.out;omega⟩
  have i1:¬(m:Int)<(md.stages.length:Int):=by omega
  go_wp2_with fail
  go_meet
  exact ⟨⟨_,rfl⟩,HB.out⟩
 obtain ⟨⟨k2,rfl⟩,HBc⟩:=hcut
 clear y0 y1 y2 y3 y4 y5
 obtain ⟨y0,y1,y2,y3,y4,y5⟩:=box6 HX.out HBc.out
 go_wp2_with fail
 go_loopw [3,8] (fun s i wr=>∃(m:Nat) (k:Int),m<=md.stones.length/\i=.int .i64 (m:Int)/\s=.int .i64 k/\Hid (Below w1.heap.size w1 wr)) (fun _ i _=>md.stones.length-(intOf i).toNat)
 case atStart=>exact ⟨0,_,Nat.zero_le _,rfl,rfl,HBc.out⟩
 obtain ⟨m,k,hml,rfl,rfl,HB⟩:=hrel
 clear y0 y1 y2 y3 y4 y5
 obtain ⟨y0,y1,y2,y3,y4,y5⟩:=box6 HX.out HB.out
 by_cases hlt:m<md.stones.length
 ·have i1:(m:Int)<(md.stones.length:Int):=by omega
  have i2:(0:Int)<=(m:Int):=by omega
  have HML:=hid hlt
  obtain ⟨b,off,ha,hbl,d1,e1,d2,e2,s1,s2,c0,c1,c2⟩:=stone_at (HM.out wr HB.out) hlt
  obtain rfl:va4=some ⟨b,off,none⟩:=ha
  have hin:=HZ.out.inT _ (List.getElem_mem hlt)
  obtain ⟨sd,hsd⟩:∃sd,md.stones[m]'hlt=sd:=⟨_,rfl⟩
  rw [hsd] at c0 c1 c2 s1 s2 hin
  obtain ⟨sn,so,su⟩:=sd
  simp only at c0 c1 c2 s1 s2 hin
  have HS1:=hid (fun W (hb:Below wr.heap.size wr W)=>size_walk so d1 e1 W hin.1 (s1.grow hb))
  have HS2:=hid (fun W (hb:Below wr.heap.size wr W)=>size_walk su d2 e2 W hin.2 (s2.grow hb))
  have HY4:=hid y4
  have HC0:=hid c0
  have HC1:=hid c1
  have HC2:=hid c2
  have HSW:Hid (∀W,Below wr.heap.size wr W->Below wr.heap.size wr W/\W.cell? ⟨w.heap.size,4,none⟩=some (.slice (some ⟨b,off,none⟩) md.stones.length vc4)/\W.cell? ⟨b,off+m*3,none⟩=some (.string sn)/\W.cell? ⟨b,off+m*3+1,none⟩=some (.slice d1 so.length e1)/\W.cell? ⟨b,off+m*3+2,none⟩=some (.slice d2 su.length e2)):=fun W hb =>
   ⟨hb,cellBelow2 hb HY4.out,cellBelow2 hb HC0.out,cellBelow2 hb HC1.out,cellBelow2 hb HC2.out⟩
  have hq0:=(Below.refl wr.heap.size wr).drew
  have k3:IntKind.i64.wrap ((m:Int)+1)=(m:Int)+1:=wrap_i64 (by omega) (by omega)
  clear s1 s2 hin hsd hbl HY4 HC0 HC1 HC2
  go_upto_region 20 with fail
  clear c0 c1 c2 y0 y1 y2 y3 y4 y5
  go_region_held3 (fun W=>Below wr.heap.size wr W/\W.cell? ⟨w.heap.size,4,none⟩=some (.slice (some ⟨b,off,none⟩) md.stones.length vc4)/\W.cell? ⟨b,off+m*3,none⟩=some (.string sn)/\W.cell? ⟨b,off+m*3+1,none⟩=some (.slice d1 so.length e1)/\W.cell? ⟨b,off+m*3+2,none⟩=some (.slice d2 su.length e2))
   (first | exact HSW.out _ hq0 | exact HSW.out _ hq1 | exact HSW.out _ hq2)
   (first
    | (go_at_call 22;refine (HS1.out _ hq0).mono ?_;rintro e W1 ⟨⟨k1,rfl⟩,hb⟩;have hq1:=hq0.trans (hb.mono hq0.size);clear hb HS1)
    | (go_at_call 22;refine (HS2.out _ hq1).mono ?_;rintro e W2 ⟨⟨k2,rfl⟩,hb⟩;have hq2:=hq1.trans (hb.mono hq1.size);clear hb HS2))
  have HBE:=hid (HB.out.trans (hq2.mono HB.out.size))
  clear hq0 hq1 hq2
  go_wp2_with fail
  refine ⟨⟨m+1,_,by have:=HML.out;omega,by go_num,rfl,HBE.out⟩,by simp only [intOf];have:=HML.out;omega⟩
 have i1:¬(m:Int)<(md.stones.length:Int):=by omega
 have HBB:=hid (HB1.out.trans (HB.out.mono HB1.out.size))
 go_wp2_with fail
 go_ret
 exact ⟨⟨_,rfl⟩,HBB.out⟩
end Go.Proofs.YtfbbkmdhnkmonaaGreatDoor
