/- Proved, each under the conditions that it names: package model: Check, walked; package model: Order, Leans, walked; What is written of a guard is read as it: plain; What is written of a guard is read as it: the induction; plain. -/
import Derived.Test.YtfbbkmdhnkmonaaGreatDoorT19
set_option maxRecDepth 100000
set_option maxHeartbeats 32000000
namespace Go.Proofs.YtfbbkmdhnkmonaaGreatDoor
open Go.RowKit
def sumTo {α:Type} (f:α->Nat) (l:List α) (m:Nat):Nat:=((l.take m).map f).sum
theorem sumTo_zero {α:Type} (f:α->Nat) (l:List α):sumTo f l 0=0:=by simp [sumTo]
theorem sumTo_succ {α:Type} (f:α->Nat) (l:List α) {m:Nat} (h:m<l.length):sumTo f l (m+1)=sumTo f l m+f l[m]:=by
 unfold sumTo
 rw [List.take_succ_eq_append_getElem h,List.map_append,List.sum_append]
 simp
theorem sumTo_all {α:Type} (f:α->Nat) (l:List α):sumTo f l l.length=(l.map f).sum:=by simp [sumTo]
theorem sumTo_le {α:Type} (f:α->Nat) (l:List α) (K:Nat) (h:∀x∈l,f x<=K):∀m,m<=l.length->sumTo f l m<=m*K
 | 0,_=>by simp [sumTo]
 | m+1,hm=>by
  rw [sumTo_succ f l (by omega),Nat.add_mul,Nat.one_mul]
  have:=sumTo_le f l K h m (by omega)
  have:=h l[m] (List.getElem_mem _)
  omega
def stageN (s:StageD):Nat:=s.opens.length+s.closes.length
def stoneN (s:StoneD):Nat:=s.done.length+s.undo.length
theorem manyN_eq (md:ModelD):manyN md=(md.stages.map stageN).sum+(md.stones.map stoneN).sum:=rfl
theorem few_of {md:ModelD} (h:¬tooMany md):md.Few:=by
 unfold tooMany at h
 exact ⟨by omega,by omega,by omega⟩
theorem inOk_of {md:ModelD} (h:Built md):InOk md:=fun n hn=>by
 have:=h.staged n hn
 unfold stagedB at this
 split at this
 ·cases this
 rename_i h1
 omega
theorem cond_of {md:ModelD} (h:Built md) (p:Pl) (s:SentryD) (hs:senAt md p=some s) (hc:s.cond.size≠0):∃t,readOf s.cond=some t:=by
 have:=h.sen p s hs
 unfold sentryB at this
 rw [Bool.and_eq_true] at this
 have:=this.2
 unfold truthB at this
 rw [if_neg hc] at this
 cases hr:readOf s.cond with
 | none=>rw [hr] at this;cases this
 | some t=>exact ⟨t,rfl⟩
theorem check_walk (md:ModelD) (v:ModelV) (w:World) (hz:md.Sml) (ht:md.Txt) (hM:ModelM false (From 0) w md v) (hv:GRng w) :
  Calls Tryz.prog 9 #[.agg (v.cs md).toArray] w (fun e w'=>e=.returned (.int .i64 (checkE md))/\Below w.heap.size w w'):=by
 obtain ⟨w1,hw1⟩:∃w1,w.alloc (.cells (v.cs md).toArray 31)=w1:=⟨_,rfl⟩
 have hb1:Below w.heap.size w w1:=hw1▸(Below.refl _ _).alloc (Nat.le_refl _) _
 have hx1:Arr w1 w.heap.size 31 (v.cs md):=hw1▸Arr.new w (v.cs md) _
 have HM:=hid (fun W (hb:Below w1.heap.size w1 W)=>hM.grow (hb1.trans (hb.mono hb1.size)))
 have HV:=hid (fun W (hb:Below w1.heap.size w1 W)=>hv.below (hb1.trans (hb.mono hb1.size)))
 have HX:=hid hx1
 have HB1:=hid hb1
 have HW1:=hid hw1
 have HZ:=hid hz
 have HT:=hid ht
 obtain ⟨q,hq⟩:∃q,checkE md=q:=⟨_,rfl⟩
 rw [hq]
 have HQ:=hid hq
 have HN:=hid (named_walk md.name w1 (hv.below hb1))
 obtain ⟨r,hr⟩:∃r,namedB md.name=r:=⟨_,rfl⟩
 rw [hr] at HN
 have HR:=hid hr
 obtain ⟨va1,vc1,va2,vc2,va3,vc3,va4,vc4,va5,vc5⟩:=v
 obtain ⟨y0,y1,y2,y3,y4,y5⟩:=box6 hx1 (Below.refl _ _)
 clear hM hv hb1 hx1 hw1 hz ht hq hr
 go_enter Tryz.func9,Tryz.ntmps9
 go_upto_region 1 with fail
 rw [HW1.out]
 go_wp2_with fail
 refine HN.out.mono ?_
 rintro e w2 ⟨rfl,hb2⟩
 have HB2:=hid hb2
 clear y0 y1 y2 y3 y4 y5 HN hb2
 obtain ⟨y0,y1,y2,y3,y4,y5⟩:=box6 HX.out HB2.out
 cases r with
 | false =>
  have HE:Hid (5=q):=by show _=_;rw [<-HQ.out,checkE,if_pos HR.out]
  have HBB:=hid (HB1.out.trans (HB2.out.mono HB1.out.size))
  go_wp2_with fail
  go_ret
  exact ⟨ret_int HE.out,HBB.out⟩
 | true =>
  go_wp2_with fail
  have HL1:Hid (∀x∈md.stages,stageN x<=2097152):=fun x hx=>by have:=HZ.out.inS x hx;unfold stageN;omega
  have HL2:Hid (∀x∈md.stones,stoneN x<=2097152):=fun x hx=>by have:=HZ.out.inT x hx;unfold stoneN;omega
  have hsl:=HZ.out.stages
  have htl:=HZ.out.stones
  go_loopw [3,17] (fun s i wr=>∃m:Nat,m<=md.stages.length/\i=.int .i64 (m:Int)/\s=.int .i64 ((sumTo stageN md.stages m:Nat):Int)/\Hid (Below w1.heap.size w1 wr)) (fun _ i _=>md.stages.length-(intOf i).toNat)
  case atStart=>exact ⟨0,Nat.zero_le _,rfl,by rw [sumTo_zero];rfl,HB2.out⟩
  obtain ⟨m,hml,rfl,rfl,HB⟩:=hrel
  clear y0 y1 y2 y3 y4 y5
  obtain ⟨y0,y1,y2,y3,y4,y5⟩:=box6 HX.out HB.out
  have hsum:=sumTo_le stageN md.stages _ HL1.out m hml
  by_cases hlt:m<md.stages.length
  ·have i1:(m:Int)<(md.stages.length:Int):=by omega
   have i2:(0:Int)<=(m:Int):=by omega
   have HML:=hid hlt
   obtain ⟨b,off,ha,hbl,d1,e1,d2,e2,s1,s2,c0,c1,c2,c3,c4,c5,c6⟩:=stage_at (HM.out wr HB.out) hlt
   obtain rfl:va3=some ⟨b,off,none⟩:=ha
   have hin:=HZ.out.inS _ (List.getElem_mem hlt)
   have hss:sumTo stageN md.stages (m+1)=sumTo stageN md.stages m+(md.stages[m].opens.length+md.stages[m].closes.length):=sumTo_succ stageN md.stages hlt
   have HSS:Hid (((sumTo stageN md.stages m:Nat):Int)+(((md.stages[m]'hlt).opens.length:Int)+((md.stages[m]'hlt).closes.length:Int))=((sumTo stageN md.stages (m+1):Nat):Int)):=by show _=_;rw [hss];omega
   obtain ⟨S,hS⟩:∃S,sumTo stageN md.stages m=S:=⟨_,rfl⟩
   rw [hS] at hsum HSS ⊢
   have k1:IntKind.i64.wrap (((md.stages[m]'hlt).opens.length:Int)+((md.stages[m]'hlt).closes.length:Int))=((md.stages[m]'hlt).opens.length:Int)+((md.stages[m]'hlt).closes.length:Int):=wrap_i64 (by omega) (by omega)
   have k2:IntKind.i64.wrap ((S:Int)+(((md.stages[m]'hlt).opens.length:Int)+((md.stages[m]'hlt).closes.length:Int)))=(S:Int)+(((md.stages[m]'hlt).opens.length:Int)+((md.stages[m]'hlt).closes.length:Int)):=wrap_i64 (by omega) (by omega)
   have k3:IntKind.i64.wrap ((m:Int)+1)=(m:Int)+1:=wrap_i64 (by omega) (by omega)
   obtain ⟨sd,hsd⟩:∃sd,md.stages[m]'hlt=sd:=⟨_,rfl⟩
   rw [hsd] at c0 c1 c2 c3 c4 c5 c6 k1 k2 HSS
   have HBA:=hid (HB.out.trans (((Below.refl wr.heap.size wr).alloc (Nat.le_refl _) (.cells #[.string sd.name,.int .i64 sd.inn,.slice d1 sd.opens.length e1,.slice d2 sd.closes.length e2,.string sd.role,.int .i64 sd.aft,.string sd.event] 38)).mono HB.out.size))
   clear s1 s2 hss hS hin hsum hsd
   go_wp2_with fail
   refine ⟨⟨m+1,by have:=HML.out;omega,by go_num,congrArg (Value.int .i64) HSS.out,HBA.out⟩,by simp only [intOf];have:=HML.out;omega⟩
  obtain rfl:m=md.stages.length:=by omega
  have i1:¬(md.stages.length:Int)<(md.stages.length:Int):=by omega
  have HSA:Hid (sumTo stageN md.stages md.stages.length=(md.stages.map stageN).sum):=sumTo_all _ _
  obtain ⟨S0,hS0⟩:∃S,sumTo stageN md.stages md.stages.length=S:=⟨_,rfl⟩
  rw [hS0] at hsum HSA ⊢
  clear hS0
  go_wp2_with fail
  go_loopw [3,34] (fun s i wr=>∃m:Nat,m<=md.stones.length/\i=.int .i64 (m:Int)/\s=.int .i64 ((S0+sumTo stoneN md.stones m:Nat):Int)/\Hid (Below w1.heap.size w1 wr)) (fun _ i _=>md.stones.length-(intOf i).toNat)
  case atStart=>exact ⟨0,Nat.zero_le _,rfl,by rw [sumTo_zero];rfl,HB.out⟩
  obtain ⟨m,hml,rfl,rfl,HB⟩:=hrel
  clear y0 y1 y2 y3 y4 y5
  obtain ⟨y0,y1,y2,y3,y4,y5⟩:=box6 HX.out HB.out
  have hsum2:=sumTo_le stoneN md.stones _ HL2.out m hml
  by_cases hlt:m<md.stones.length
  ·have i1:(m:Int)<(md.stones.length:Int):=by omega
   have i2:(0:Int)<=(m:Int):=by omega
   have HML:=hid hlt
   obtain ⟨b,off,ha,hbl,d1,e1,d2,e2,s1,s2,c0,c1,c2⟩:=stone_at (HM.out wr HB.out) hlt
   obtain rfl:va4=some ⟨b,off,none⟩:=ha
   have hin:=HZ.out.inT _ (List.getElem_mem hlt)
   have hss:sumTo stoneN md.stones (m+1)=sumTo stoneN md.stones m+(md.stones[m].done.length+md.stones[m].undo.length):=sumTo_succ stoneN md.stones hlt
   have HSS:Hid (((S0+sumTo stoneN md.stones m:Nat):Int)+(((md.stones[m]'hlt).done.length:Int)+((md.stones[m]'hlt).undo.length:Int))=((S0+sumTo stoneN md.stones (m+1):Nat):Int)):=by show _=_;rw [hss];omega
   obtain ⟨S,hS⟩:∃S,S0+sumTo stoneN md.stones m=S:=⟨_,rfl⟩
   have hSb:S<=S0+m*2097152:=by omega
   rw [hS] at HSS ⊢
   have k1:IntKind.i64.wrap (((md.stones[m]'hlt).done.length:Int)+((md.stones[m]'hlt).undo.length:Int))=((md.stones[m]'hlt).done.length:Int)+((md.stones[m]'hlt).undo.length:Int):=wrap_i64 (by omega) (by omega)
   have k2:IntKind.i64.wrap ((S:Int)+(((md.stones[m]'hlt).done.length:Int)+((md.stones[m]'hlt).undo.length:Int)))=(S:Int)+(((md.stones[m]'hlt).done.length:Int)+((md.stones[m]'hlt).undo.length:Int)):=wrap_i64 (by omega) (by omega)
   have k3:IntKind.i64.wrap ((m:Int)+1)=(m:Int)+1:=wrap_i64 (by omega) (by omega)
   obtain ⟨sd,hsd⟩:∃sd,md.stones[m]'hlt=sd:=⟨_,rfl⟩
   rw [hsd] at c0 c1 c2 k1 k2 HSS
   have HBA:=hid (HB.out.trans (((Below.refl wr.heap.size wr).alloc (Nat.le_refl _) (.cells #[.string sd.name,.slice d1 sd.done.length e1,.slice d2 sd.undo.length e2] 58)).mono HB.out.size))
   clear s1 s2 hss hS hin hsum2 hsd hSb
   go_wp2_with fail
   refine ⟨⟨m+1,by have:=HML.out;omega,by go_num,congrArg (Value.int .i64) HSS.out,HBA.out⟩,by simp only [intOf];have:=HML.out;omega⟩
  obtain rfl:m=md.stones.length:=by omega
  have i1:¬(md.stones.length:Int)<(md.stones.length:Int):=by omega
  have HMY:Hid (S0+sumTo stoneN md.stones md.stones.length=manyN md):=by show _=_;rw [HSA.out,sumTo_all,manyN_eq]
  rw [HMY.out]
  have HBW:=hid (HB1.out.trans (HB.out.mono HB1.out.size))
  have HTM:Hid (tooMany md->4=q):=fun h=>by rw [<-HQ.out,checkE,if_neg (by rw [HR.out];simp),if_pos h]
  have hcase:32<md.attrs.length\/(¬32<md.attrs.length/\32<md.events.length)\/(¬32<md.attrs.length/\¬32<md.events.length/\32<md.stages.length)\/(¬32<md.attrs.length/\¬32<md.events.length/\¬32<md.stages.length/\32<md.stones.length) \/
    (¬32<md.attrs.length/\¬32<md.events.length/\¬32<md.stages.length/\¬32<md.stones.length/\32<md.apart.length)\/(¬32<md.attrs.length/\¬32<md.events.length/\¬32<md.stages.length/\¬32<md.stones.length/\¬32<md.apart.length/\128<manyN md) \/
    (¬32<md.attrs.length/\¬32<md.events.length/\¬32<md.stages.length/\¬32<md.stones.length/\¬32<md.apart.length/\¬128<manyN md):=by omega
  clear HMY HSA hsum hsum2
  rcases hcase with h1 | ⟨h1,h2⟩ | ⟨h1,h2,h3⟩ | ⟨h1,h2,h3,h4⟩ | ⟨h1,h2,h3,h4,h5⟩ | ⟨h1,h2,h3,h4,h5,h6⟩ | ⟨h1,h2,h3,h4,h5,h6⟩
  case inr.inr.inr.inr.inr.inr =>
   have j1:¬(32:Int)<(md.attrs.length:Int):=by omega
   have j2:¬(32:Int)<(md.events.length:Int):=by omega
   have j3:¬(32:Int)<(md.stages.length:Int):=by omega
   have j4:¬(32:Int)<(md.stones.length:Int):=by omega
   have j5:¬(32:Int)<(md.apart.length:Int):=by omega
   have j6:¬(128:Int)<(manyN md:Int):=by omega
   have htm:¬tooMany md:=by unfold tooMany;omega
   have HF:=hid (few_of htm)
   have HC:=hid (built_walk md ⟨va1,vc1,va2,vc2,va3,vc3,va4,vc4,va5,vc5⟩ wr HZ.out HF.out HT.out (HM.out wr HB.out) (HV.out wr HB.out))
   obtain ⟨r,hr⟩:∃r,builtB md=r:=⟨_,rfl⟩
   rw [hr] at HC
   have HR2:=hid hr
   have HQ2:Hid (checkE md=if builtB md=false then 180 else if (orderL md).length<(placesL md).length then 181 else 0):=by show _=_;rw [checkE,if_neg (by rw [HR.out];simp),if_neg htm]
   clear hr htm h1 h2 h3 h4 h5 h6
   obtain ⟨y0,y1,y2,y3,y4,y5⟩:=box6 HX.out HB.out
   cases r with
   | false =>
    have HE:Hid (180=q):=by show _=_;rw [<-HQ.out,HQ2.out,if_pos HR2.out]
    go_wp2_with fail
    refine HC.out.mono ?_
    rintro e w3 ⟨rfl,hb3⟩
    have HB3:=hid (HBW.out.trans (hb3.mono HBW.out.size))
    clear hb3 HC
    go_wp2_with fail
    go_ret
    exact ⟨ret_int HE.out,HB3.out⟩
   | true =>
    have HBT:=hid ((builtB_iff md).1 HR2.out)
    go_wp2_with fail
    refine HC.out.mono ?_
    rintro e w3 ⟨rfl,hb3⟩
    have HB3:=hid (HB.out.trans (hb3.mono HB.out.size))
    have HP:=hid (places_walk md ⟨va1,vc1,va2,vc2,va3,vc3,va4,vc4,va5,vc5⟩ w3 HF.out (HM.out w3 HB3.out))
    clear hb3 HC y0 y1 y2 y3 y4 y5
    obtain ⟨y0,y1,y2,y3,y4,y5⟩:=box6 HX.out HB3.out
    go_wp2_with fail
    refine HP.out.mono ?_
    rintro e w4 ⟨hb4,g,vc,M,ents,rfl,-,-,hpl,-,hme,hge⟩
    have HB4:=hid (HB3.out.trans (hb4.mono HB3.out.size))
    have HO:=hid (ordered_walk md ⟨va1,vc1,va2,vc2,va3,vc3,va4,vc4,va5,vc5⟩ w4 _ vc M ents HZ.out HF.out (inOk_of HBT.out) (cond_of HBT.out) (HM.out w4 HB4.out) (HV.out w4 HB4.out) hpl hme hge)
    clear hb4 hpl hme hge HP y0 y1 y2 y3 y4 y5
    obtain ⟨y0,y1,y2,y3,y4,y5⟩:=box6 HX.out HB4.out
    go_wp2_with fail
    refine HO.out.mono ?_
    rintro e w5 ⟨hb5,oa,oc,rfl,-⟩
    have HB5:=hid (HB1.out.trans ((HB4.out.trans (hb5.mono HB4.out.size)).mono HB1.out.size))
    clear hb5 HO
    by_cases hlt:(orderL md).length<(placesL md).length
    ·have k1:((orderL md).length:Int)<((placesL md).length:Int):=by omega
     have HE:Hid (181=q):=by show _=_;rw [<-HQ.out,HQ2.out,if_neg (by rw [HR2.out];simp),if_pos hlt]
     go_wp2_with fail
     go_ret
     exact ⟨ret_int HE.out,HB5.out⟩
    have k1:¬((orderL md).length:Int)<((placesL md).length:Int):=by omega
    have HE:Hid (0=q):=by show _=_;rw [<-HQ.out,HQ2.out,if_neg (by rw [HR2.out];simp),if_neg hlt]
    go_wp2_with fail
    go_ret
    exact ⟨ret_int HE.out,HB5.out⟩
  all_goals
   have HE:=hid (HTM.out (by unfold tooMany;omega))
  case inl =>
   have j1:(32:Int)<(md.attrs.length:Int):=by omega
   go_wp2_with fail
   go_ret
   exact ⟨ret_int HE.out,HBW.out⟩
  case inr.inl =>
   have j1:¬(32:Int)<(md.attrs.length:Int):=by omega
   have j2:(32:Int)<(md.events.length:Int):=by omega
   go_wp2_with fail
   go_ret
   exact ⟨ret_int HE.out,HBW.out⟩
  case inr.inr.inl =>
   have j1:¬(32:Int)<(md.attrs.length:Int):=by omega
   have j2:¬(32:Int)<(md.events.length:Int):=by omega
   have j3:(32:Int)<(md.stages.length:Int):=by omega
   go_wp2_with fail
   go_ret
   exact ⟨ret_int HE.out,HBW.out⟩
  case inr.inr.inr.inl =>
   have j1:¬(32:Int)<(md.attrs.length:Int):=by omega
   have j2:¬(32:Int)<(md.events.length:Int):=by omega
   have j3:¬(32:Int)<(md.stages.length:Int):=by omega
   have j4:(32:Int)<(md.stones.length:Int):=by omega
   go_wp2_with fail
   go_ret
   exact ⟨ret_int HE.out,HBW.out⟩
  case inr.inr.inr.inr.inl =>
   have j1:¬(32:Int)<(md.attrs.length:Int):=by omega
   have j2:¬(32:Int)<(md.events.length:Int):=by omega
   have j3:¬(32:Int)<(md.stages.length:Int):=by omega
   have j4:¬(32:Int)<(md.stones.length:Int):=by omega
   have j5:(32:Int)<(md.apart.length:Int):=by omega
   go_wp2_with fail
   go_ret
   exact ⟨ret_int HE.out,HBW.out⟩
  have j1:¬(32:Int)<(md.attrs.length:Int):=by omega
  have j2:¬(32:Int)<(md.events.length:Int):=by omega
  have j3:¬(32:Int)<(md.stages.length:Int):=by omega
  have j4:¬(32:Int)<(md.stones.length:Int):=by omega
  have j5:¬(32:Int)<(md.apart.length:Int):=by omega
  have j6:(128:Int)<(manyN md:Int):=by omega
  go_wp2_with fail
  go_ret
  exact ⟨ret_int HE.out,HBW.out⟩
theorem ret_two {x:Bool} {y:Int} {r:Bool×Int} (h:(x,y)=r):Ending.returned (.tuple #[.bool x,.int .i64 y])=Ending.returned (.tuple #[.bool r.1,.int .i64 r.2]):=by rw [<-h]
theorem check_zero {md:ModelD} (h:checkE md=0):namedB md.name=true/\¬tooMany md/\builtB md=true/\(orderL md).length=(placesL md).length:=by
 unfold checkE at h
 split at h
 ·cases h
 rename_i h1
 split at h
 ·cases h
 rename_i h2
 split at h
 ·cases h
 rename_i h3
 split at h
 ·cases h
 rename_i h4
 have:=orderL_len md
 refine ⟨by simpa using h1,h2,by simpa using h3,by omega⟩
noncomputable def ordA (md:ModelD):List Pl:=if checkE md=0 then orderL md else []
noncomputable def leansA (md:ModelD) (a b:Pl):Bool×Int:=if checkE md=0 then (if a∈placesL md/\b∈placesL md then (leansB md a b,0) else (false,2)) else (false,checkE md)
def OrderEnd (md:ModelD) (w:World) (e:Ending) (w':World):Prop:=Below w.heap.size w w'/\∃va vc,e=.returned (.tuple #[.slice va (ordA md).length vc,.int .i64 (checkE md)])/\Mem false (From 0) w' (flatL 3 plC (ordA md)) (.slice va (ordA md).length vc)
theorem order_walk (md:ModelD) (v:ModelV) (w:World) (hz:md.Sml) (ht:md.Txt) (hM:ModelM false (From 0) w md v) (hv:GRng w) :
  Calls Tryz.prog 11 #[.agg (v.cs md).toArray] w (OrderEnd md w):=by
 obtain ⟨w1,hw1⟩:∃w1,w.alloc (.cells (v.cs md).toArray 31)=w1:=⟨_,rfl⟩
 have hb1:Below w.heap.size w w1:=hw1▸(Below.refl _ _).alloc (Nat.le_refl _) _
 have hx1:Arr w1 w.heap.size 31 (v.cs md):=hw1▸Arr.new w (v.cs md) _
 have HM:=hid (fun W (hb:Below w1.heap.size w1 W)=>hM.grow (hb1.trans (hb.mono hb1.size)))
 have HV:=hid (fun W (hb:Below w1.heap.size w1 W)=>hv.below (hb1.trans (hb.mono hb1.size)))
 have HX:=hid hx1
 have HB1:=hid hb1
 have HW1:=hid hw1
 have HZ:=hid hz
 have HC:=hid (check_walk md v w1 hz ht (hM.grow hb1) (hv.below hb1))
 obtain ⟨q,hq⟩:∃q,checkE md=q:=⟨_,rfl⟩
 rw [hq] at HC
 have HQ:=hid hq
 obtain ⟨va1,vc1,va2,vc2,va3,vc3,va4,vc4,va5,vc5⟩:=v
 obtain ⟨y0,y1,y2,y3,y4,y5⟩:=box6 hx1 (Below.refl _ _)
 clear hM hv hb1 hx1 hw1 hz ht hq
 go_enter Tryz.func11,Tryz.ntmps11
 go_upto_region 1 with fail
 rw [HW1.out]
 go_wp2_with fail
 refine HC.out.mono ?_
 rintro e w2 ⟨rfl,hb2⟩
 have HB2:=hid hb2
 clear y0 y1 y2 y3 y4 y5 HC hb2
 obtain ⟨y0,y1,y2,y3,y4,y5⟩:=box6 HX.out HB2.out
 by_cases h0:q=0
 ·have HCZ:=hid (check_zero (HQ.out.trans h0))
  have HF:=hid (few_of HCZ.out.2.1)
  have HBT:=hid ((builtB_iff md).1 HCZ.out.2.2.1)
  have HP:=hid (places_walk md ⟨va1,vc1,va2,vc2,va3,vc3,va4,vc4,va5,vc5⟩ w2 HF.out (HM.out w2 HB2.out))
  have HOA:Hid (ordA md=orderL md):=by show _=_;rw [ordA,if_pos (HQ.out.trans h0)]
  subst h0
  go_wp2_with fail
  refine HP.out.mono ?_
  rintro e w4 ⟨hb4,g,vc,M,ents,rfl,-,-,hpl,-,hme,hge⟩
  have HB4:=hid (HB2.out.trans (hb4.mono HB2.out.size))
  have HO:=hid (ordered_walk md ⟨va1,vc1,va2,vc2,va3,vc3,va4,vc4,va5,vc5⟩ w4 _ vc M ents HZ.out HF.out (inOk_of HBT.out) (cond_of HBT.out) (HM.out w4 HB4.out) (HV.out w4 HB4.out) hpl hme hge)
  clear hb4 hpl hme hge HP y0 y1 y2 y3 y4 y5
  obtain ⟨y0,y1,y2,y3,y4,y5⟩:=box6 HX.out HB4.out
  go_wp2_with fail
  refine HO.out.mono ?_
  rintro e w5 ⟨hb5,oa,oc,rfl,hmo⟩
  have HE:Hid (OrderEnd md w (.returned (.tuple #[.slice oa (orderL md).length oc,.int .i64 0])) w5) :=
   ⟨HB1.out.trans ((HB4.out.trans (hb5.mono HB4.out.size)).mono HB1.out.size),oa,oc,by rw [HOA.out,HQ.out],by rw [HOA.out];exact hmo⟩
  clear hb5 hmo HO
  go_wp2_with fail
  refine bodyPost_end (results_tmp2 (Tryz.results11) _ _ _) rfl ?_
  exact HE.out
 have HE:Hid (OrderEnd md w (.returned (.tuple #[.slice none 0 0,.int .i64 q])) w2):=by
  have hoa:ordA md=[]:=by rw [ordA,if_neg (by rw [HQ.out];exact h0)]
  exact ⟨HB1.out.trans (HB2.out.mono HB1.out.size),none,0,by rw [hoa,HQ.out];rfl,by rw [hoa];exact mem_empty _ _ _⟩
 go_wp2_with fail
 refine bodyPost_end (results_tmp2 (Tryz.results11) _ _ _) rfl ?_
 exact HE.out
theorem leansX_walk (md:ModelD) (v:ModelV) (a b:Pl) (w:World) (hz:md.Sml) (ht:md.Txt) (hM:ModelM false (From 0) w md v) (hv:GRng w) :
  Calls Tryz.prog 6 #[.agg (v.cs md).toArray,plV a,plV b] w (fun e w'=>e=.returned (.tuple #[.bool (leansA md a b).1,.int .i64 (leansA md a b).2])/\Below w.heap.size w w'):=by
 obtain ⟨va1,vc1,va2,vc2,va3,vc3,va4,vc4,va5,vc5⟩:=v
 obtain ⟨p0,p1,p2⟩:=a
 obtain ⟨q0,q1,q2⟩:=b
 simp only [plV]
 obtain ⟨ra,hra⟩:∃r,leansA md (p0,p1,p2) (q0,q1,q2)=r:=⟨_,rfl⟩
 rw [hra]
 have HRA:=hid hra
 clear hra
 obtain ⟨wa,hwa⟩:∃wa,w.alloc (.cells (ModelV.cs ⟨va1,vc1,va2,vc2,va3,vc3,va4,vc4,va5,vc5⟩ md).toArray 31)=wa:=⟨_,rfl⟩
 obtain ⟨w1,hw1⟩:∃w1,(wa.alloc (.cells #[.int .i64 p0,.int .i64 p1,.int .i64 p2] 33)).alloc (.cells #[.int .i64 q0,.int .i64 q1,.int .i64 q2] 33)=w1:=⟨_,rfl⟩
 have hza:wa.heap.size=w.heap.size+1:=by rw [<-hwa,size_alloc]
 have hba:Below w.heap.size w wa:=hwa▸(Below.refl _ _).alloc (Nat.le_refl _) _
 have hb1:Below w.heap.size w w1:=hw1▸(hba.alloc (by omega) _).alloc (by rw [size_alloc];omega) _
 have hxm:Arr w1 w.heap.size 31 (ModelV.cs ⟨va1,vc1,va2,vc2,va3,vc3,va4,vc4,va5,vc5⟩ md):=hw1▸((show Arr wa _ _ _ from hwa▸Arr.new w (ModelV.cs ⟨va1,vc1,va2,vc2,va3,vc3,va4,vc4,va5,vc5⟩ md) _).alloc _).alloc _
 have hxa:Arr w1 (w.heap.size+1) 33 [.int .i64 p0,.int .i64 p1,.int .i64 p2]:=hw1▸(show Arr _ (w.heap.size+1) _ _ from ⟨alloc_at (by rw [hza])⟩).alloc _
 have hxb:Arr w1 (w.heap.size+1+1) 33 [.int .i64 q0,.int .i64 q1,.int .i64 q2]:=hw1▸⟨alloc_at (by rw [size_alloc,hza])⟩
 have HM:=hid (fun W (hb:Below w1.heap.size w1 W)=>hM.grow (hb1.trans (hb.mono hb1.size)))
 have HV:=hid (fun W (hb:Below w1.heap.size w1 W)=>hv.below (hb1.trans (hb.mono hb1.size)))
 have HSW:Hid (∀W',Below w1.heap.size w1 W'->(W'.cell? ⟨w.heap.size,0,none⟩=some (.string md.name)/\W'.cell? ⟨w.heap.size,1,none⟩=some (.slice va1 md.attrs.length vc1)/\W'.cell? ⟨w.heap.size,2,none⟩=some (.slice va2 md.events.length vc2)/\W'.cell? ⟨w.heap.size,3,none⟩=some (.slice va3 md.stages.length vc3) /\
   W'.cell? ⟨w.heap.size,4,none⟩=some (.slice va4 md.stones.length vc4)/\W'.cell? ⟨w.heap.size,5,none⟩=some (.slice va5 md.apart.length vc5)/\W'.cell? ⟨w.heap.size+1,0,none⟩=some (.int .i64 p0)/\W'.cell? ⟨w.heap.size+1,1,none⟩=some (.int .i64 p1)/\W'.cell? ⟨w.heap.size+1,2,none⟩=some (.int .i64 p2) /\
   W'.cell? ⟨w.heap.size+1+1,0,none⟩=some (.int .i64 q0)/\W'.cell? ⟨w.heap.size+1+1,1,none⟩=some (.int .i64 q1)/\W'.cell? ⟨w.heap.size+1+1,2,none⟩=some (.int .i64 q2))):=fun W' hb=>by
  obtain ⟨m0,m1,m2,m3,m4,m5⟩:=box6 hxm hb
  exact ⟨m0,m1,m2,m3,m4,m5,cellBelow2 hb (hxa.cell (j:=0) (by simp)),cellBelow2 hb (hxa.cell (j:=1) (by simp)),cellBelow2 hb (hxa.cell (j:=2) (by simp)),cellBelow2 hb (hxb.cell (j:=0) (by simp)),cellBelow2 hb (hxb.cell (j:=1) (by simp)),cellBelow2 hb (hxb.cell (j:=2) (by simp))⟩
 have HWA:=hid hwa
 have HW1:=hid hw1
 have HB1:=hid hb1
 have HZ:=hid hz
 have HC:=hid (check_walk md ⟨va1,vc1,va2,vc2,va3,vc3,va4,vc4,va5,vc5⟩ w1 hz ht (hM.grow hb1) (hv.below hb1))
 obtain ⟨q,hq⟩:∃q,checkE md=q:=⟨_,rfl⟩
 rw [hq] at HC
 have HQ:=hid hq
 obtain ⟨m0,m1,m2,m3,m4,m5,x0,x1,x2,z0,z1,z2⟩:=HSW.out w1 (Below.refl _ _)
 clear hM hv hb1 hxm hxa hxb hw1 hwa hz ht hq hba hza
 go_enter Tryz.func6,Tryz.ntmps6
 go_upto_region 1 with fail
 rw [HWA.out,HW1.out]
 go_wp2_with fail
 refine HC.out.mono ?_
 rintro e w2 ⟨rfl,hb2⟩
 have HB2:=hid hb2
 clear m0 m1 m2 m3 m4 m5 x0 x1 x2 z0 z1 z2 HC hb2
 obtain ⟨m0,m1,m2,m3,m4,m5,x0,x1,x2,z0,z1,z2⟩:=HSW.out w2 HB2.out
 by_cases h0:q=0
 ·have HCZ:=hid (check_zero (HQ.out.trans h0))
  have HF:=hid (few_of HCZ.out.2.1)
  have HBT:=hid ((builtB_iff md).1 HCZ.out.2.2.1)
  have HP:=hid (places_walk md ⟨va1,vc1,va2,vc2,va3,vc3,va4,vc4,va5,vc5⟩ w2 HF.out (HM.out w2 HB2.out))
  have HLA:Hid (leansA md (p0,p1,p2) (q0,q1,q2)=if (p0,p1,p2)∈placesL md/\(q0,q1,q2)∈placesL md then (leansB md (p0,p1,p2) (q0,q1,q2),0) else (false,2)):=by show _=_;rw [leansA,if_pos (HQ.out.trans h0)]
  subst h0
  go_wp2_with fail
  refine HP.out.mono ?_
  rintro e w4 ⟨hb4,g,vc,M,ents,rfl,-,-,hpl,-,hme,hge⟩
  have HB4:=hid (HB2.out.trans (hb4.mono HB2.out.size))
  have hpn:(placesL md).length<=1048576:=by rw [length_placesL];have:=HF.out.many;omega
  have HC1:=hid (containsPl (placesL md) (p0,p1,p2) _ vc w4 hpn hpl)
  have HC2:=hid (fun W (hb:Below w4.heap.size w4 W)=>containsPl (placesL md) (q0,q1,q2) _ vc W hpn (hpl.grow hb))
  have HLK:=hid (fun W (hb:Below w4.heap.size w4 W) (p:Pl) (s:SentryD) (hp:okPl p) (hs:senAt md p=some s)=>(by
   have:=(hme.below hb hme.lt).get Tryz.underlying51 plEnc Tryz.zeroValue35 hp
   rw [hge,senP,hs] at this
   exact this:(Instr.lookup 51 (.map (some M)) (plV p) false).run Tryz.prog W=.ok (senV s) W))
  obtain ⟨r1,hr1⟩:∃r,decide ((p0,p1,p2)∈placesL md)=r:=⟨_,rfl⟩
  obtain ⟨r2,hr2⟩:∃r,decide ((q0,q1,q2)∈placesL md)=r:=⟨_,rfl⟩
  rw [hr1] at HC1
  simp only [hr2] at HC2
  have HR1:=hid hr1
  have HR2:=hid hr2
  clear hb4 hpl hme hge HP m0 m1 m2 m3 m4 m5 x0 x1 x2 z0 z1 z2 hpn hr1 hr2
  obtain ⟨m0,m1,m2,m3,m4,m5,x0,x1,x2,z0,z1,z2⟩:=HSW.out w4 HB4.out
  go_wp2_with fail
  refine HC1.out.mono ?_
  rintro e w5 ⟨rfl,hb5⟩
  have HB5:=hid (HB4.out.trans (hb5.mono HB4.out.size))
  have HB45:=hid hb5
  clear hb5 HC1 m0 m1 m2 m3 m4 m5 x0 x1 x2 z0 z1 z2
  obtain ⟨m0,m1,m2,m3,m4,m5,x0,x1,x2,z0,z1,z2⟩:=HSW.out w5 HB5.out
  cases r1 with
  | false =>
   have HE:Hid ((false,2)=ra):=by
    show _=_
    rw [<-HRA.out,HLA.out,if_neg (fun h=>by have:=HR1.out;rw [decide_eq_false_iff_not] at this;exact this h.1)]
   have HBB:=hid (HB1.out.trans (HB5.out.mono HB1.out.size))
   go_wp2_with fail
   try simp only [Exit.inBlock,Exit.then]
   refine bodyPost_ret (results_tmp2 (Tryz.results6) _ _ _) rfl ?_
   exact ⟨ret_two HE.out,HBB.out⟩
  | true =>
   have HC3:=hid (HC2.out w5 HB45.out)
   go_wp2_with fail
   refine HC3.out.mono ?_
   rintro e w6 ⟨rfl,hb6⟩
   have HB6:=hid (HB5.out.trans (hb6.mono HB5.out.size))
   have HB46:=hid (HB45.out.trans (hb6.mono HB45.out.size))
   clear hb6 HC3 m0 m1 m2 m3 m4 m5 x0 x1 x2 z0 z1 z2
   obtain ⟨m0,m1,m2,m3,m4,m5,x0,x1,x2,z0,z1,z2⟩:=HSW.out w6 HB6.out
   cases r2 with
   | false =>
    have HE:Hid ((false,2)=ra):=by
     show _=_
     rw [<-HRA.out,HLA.out,if_neg (fun h=>by have:=HR2.out;rw [decide_eq_false_iff_not] at this;exact this h.2)]
    have HBB:=hid (HB1.out.trans (HB6.out.mono HB1.out.size))
    go_wp2_with fail
    try simp only [Exit.inBlock,Exit.then]
    refine bodyPost_ret (results_tmp2 (Tryz.results6) _ _ _) rfl ?_
    exact ⟨ret_two HE.out,HBB.out⟩
   | true =>
    have h1:(p0,p1,p2)∈placesL md:=of_decide_eq_true HR1.out
    have h2:(q0,q1,q2)∈placesL md:=of_decide_eq_true HR2.out
    have HE:Hid ((leansB md (p0,p1,p2) (q0,q1,q2),0)=ra):=by
     show _=_
     rw [<-HRA.out,HLA.out,if_pos ⟨h1,h2⟩]
    obtain ⟨s,hs,hls⟩:=leansB_at h1 (q0,q1,q2)
    have HL:=hid (fun W (hb:Below w6.heap.size w6 W)=>leans_walk md ⟨va1,vc1,va2,vc2,va3,vc3,va4,vc4,va5,vc5⟩ (p0,p1,p2) (q0,q1,q2) s W HZ.out (inOk_of HBT.out) (place_stage h1) (cond_of HBT.out _ s hs) (HM.out W (HB6.out.trans (hb.mono HB6.out.size))) (HV.out W (HB6.out.trans (hb.mono HB6.out.size))))
    rw [hls] at HE
    obtain ⟨r,hr⟩:∃r,leansS md (p0,p1,p2) (q0,q1,q2) s=r:=⟨_,rfl⟩
    simp only [hr,plV,senV] at HL
    rw [hr] at HE
    have HSX:Hid (∀W',Below w6.heap.size w6 W'->(Below w6.heap.size w6 W'/\W'.cell? ⟨w.heap.size,0,none⟩=some (.string md.name)/\W'.cell? ⟨w.heap.size,1,none⟩=some (.slice va1 md.attrs.length vc1)/\W'.cell? ⟨w.heap.size,2,none⟩=some (.slice va2 md.events.length vc2)/\W'.cell? ⟨w.heap.size,3,none⟩=some (.slice va3 md.stages.length vc3) /\
     W'.cell? ⟨w.heap.size,4,none⟩=some (.slice va4 md.stones.length vc4)/\W'.cell? ⟨w.heap.size,5,none⟩=some (.slice va5 md.apart.length vc5)/\W'.cell? ⟨w.heap.size+1,0,none⟩=some (.int .i64 p0)/\W'.cell? ⟨w.heap.size+1,1,none⟩=some (.int .i64 p1)/\W'.cell? ⟨w.heap.size+1,2,none⟩=some (.int .i64 p2) /\
     W'.cell? ⟨w.heap.size+1+1,0,none⟩=some (.int .i64 q0)/\W'.cell? ⟨w.heap.size+1+1,1,none⟩=some (.int .i64 q1)/\W'.cell? ⟨w.heap.size+1+1,2,none⟩=some (.int .i64 q2) /\
     (Instr.lookup 51 (.map (some M)) (.agg #[.int .i64 p0,.int .i64 p1,.int .i64 p2]) false).run Tryz.prog W'=.ok (.agg #[.int .u8 s.on,.string s.name,.string s.cond]) W')):=fun W' hb=>by
     obtain ⟨a0,a1,a2,a3,a4,a5,a6,a7,a8,a9,a10,a11⟩:=HSW.out W' (HB6.out.trans (hb.mono HB6.out.size))
     exact ⟨hb,a0,a1,a2,a3,a4,a5,a6,a7,a8,a9,a10,a11,HLK.out W' (HB46.out.trans (hb.mono HB46.out.size)) (p0,p1,p2) s (okPl_places HF.out h1) hs⟩
    have hq0:=(Below.refl w6.heap.size w6).drew
    clear h1 h2 hs hls hr
    go_upto_region 7 with fail
    clear m0 m1 m2 m3 m4 m5 x0 x1 x2 z0 z1 z2
    go_region_held3 (fun W'=>Below w6.heap.size w6 W'/\W'.cell? ⟨w.heap.size,0,none⟩=some (.string md.name)/\W'.cell? ⟨w.heap.size,1,none⟩=some (.slice va1 md.attrs.length vc1)/\W'.cell? ⟨w.heap.size,2,none⟩=some (.slice va2 md.events.length vc2)/\W'.cell? ⟨w.heap.size,3,none⟩=some (.slice va3 md.stages.length vc3) /\
     W'.cell? ⟨w.heap.size,4,none⟩=some (.slice va4 md.stones.length vc4)/\W'.cell? ⟨w.heap.size,5,none⟩=some (.slice va5 md.apart.length vc5)/\W'.cell? ⟨w.heap.size+1,0,none⟩=some (.int .i64 p0)/\W'.cell? ⟨w.heap.size+1,1,none⟩=some (.int .i64 p1)/\W'.cell? ⟨w.heap.size+1,2,none⟩=some (.int .i64 p2) /\
     W'.cell? ⟨w.heap.size+1+1,0,none⟩=some (.int .i64 q0)/\W'.cell? ⟨w.heap.size+1+1,1,none⟩=some (.int .i64 q1)/\W'.cell? ⟨w.heap.size+1+1,2,none⟩=some (.int .i64 q2) /\
     (Instr.lookup 51 (.map (some M)) (.agg #[.int .i64 p0,.int .i64 p1,.int .i64 p2]) false).run Tryz.prog W'=.ok (.agg #[.int .u8 s.on,.string s.name,.string s.cond]) W')
     (first | exact HSX.out _ (Below.refl _ _) | exact HSX.out _ hq0 | exact HSX.out _ hq1)
     (first
      | (go_at_call 18;refine (HL.out _ hq0).mono ?_;rintro e W1 ⟨rfl,hb⟩;have hq1:=hq0.trans (hb.mono hq0.size);clear hb HL))
    have HBB:=hid (HB1.out.trans ((HB6.out.trans (hq1.mono HB6.out.size)).mono HB1.out.size))
    go_wp2_with fail
    try simp only [Exit.inBlock,Exit.then]
    refine bodyPost_ret (results_tmp2 (Tryz.results6) _ _ _) rfl ?_
    exact ⟨ret_two HE.out,HBB.out⟩
 have HE:Hid ((false,q)=ra):=by show _=_;rw [<-HRA.out,leansA,if_neg (by rw [HQ.out];exact h0),HQ.out]
 have HBB:=hid (HB1.out.trans (HB2.out.mono HB1.out.size))
 go_wp2_with fail
 try simp only [Exit.inBlock,Exit.then]
 refine bodyPost_ret (results_tmp2 (Tryz.results6) _ _ _) rfl ?_
 exact ⟨ret_two HE.out,HBB.out⟩
end Go.Proofs.YtfbbkmdhnkmonaaGreatDoor
namespace Go.Proofs.YtfbbkmdhnkmonaaGreatDoor
open Go.RowKit
theorem bl_cons {c:UInt8} (h:c≠32) (r:List UInt8):bl (c :: r)=c :: r:=by
 unfold bl
 rw [List.dropWhile_cons,if_neg (by simpa using h)]
theorem bl_space (r:List UInt8):bl (32 :: r)=bl r:=by
 unfold bl
 rw [List.dropWhile_cons,if_pos (by decide)]
theorem good_tk {x r:List UInt8} (h:Tk x r):Good (x++r):=.inr (by rw [h.long];exact h.pos)
theorem op_tk {k:Nat} (h:9<=k/\k<=15) (r:List UInt8):Tk (opT k) (32 :: r)/\∀l,bl (opT k++l)=opT k++l:=by
 have hs:Stop (32 :: r):=.inr ⟨32,r,rfl,.inl rfl⟩
 have:k=9\/k=10\/k=11\/k=12\/k=13\/k=14\/k=15:=by omega
 rcases this with rfl | rfl | rfl | rfl | rfl | rfl | rfl
 ·exact ⟨tk_word (c:=97) (x:=[110,100]) (by decide) (by decide) (by decide) hs,fun l=>bl_cons (by decide) _⟩
 ·exact ⟨tk_word (c:=111) (x:=[114]) (by decide) (by decide) (by decide) hs,fun l=>bl_cons (by decide) _⟩
 ·exact ⟨tk_sign (by decide) _,fun l=>bl_cons (by decide) _⟩
 ·exact ⟨tk_sign (by decide) _,fun l=>bl_cons (by decide) _⟩
 ·exact ⟨tk_sign (by decide) _,fun l=>bl_cons (by decide) _⟩
 ·exact ⟨tk_sign (by decide) _,fun l=>bl_cons (by decide) _⟩
 exact ⟨tk_sign (by decide) _,fun l=>bl_cons (by decide) _⟩
section
variable {s:ByteArray} {f:Nat} {st st1 st2 st3:GSt} {a b:GT} {k:Nat}
def Ev (s:ByteArray) (nt:NT) (st:GSt) (x:GT×GSt):Prop:=∃f,pars s f nt st=some (.ok x)
theorem Ev.two {nt nt':NT} {st st':GSt} {x y:GT×GSt} (h:Ev s nt st x) (h':Ev s nt' st' y):∃f,3<=f/\pars s f nt st=some (.ok x)/\pars s f nt' st'=some (.ok y):=by
 obtain ⟨f,h⟩:=h
 obtain ⟨f',h'⟩:=h'
 exact ⟨max f f' + 3,by omega,pars_up (by omega) nt _ _ h,pars_up (by omega) nt' _ _ h'⟩
theorem Ev.big {nt:NT} {x:GT×GSt} (h:Ev s nt st x) (n:Nat):∃f,n<=f/\pars s f nt st=some (.ok x):=by
 obtain ⟨f,h⟩:=h
 exact ⟨f+n,by omega,pars_up (by omega) nt _ _ h⟩
def subOf:NT->NT
 | .guard=>.side
 | .side=>.part
 | .sum=>.product
 | _=>.atom
def kindOf:NT->ByteArray->Option Nat
 | .guard=>kOr
 | .side=>kAnd
 | .sum=>kSum
 | _=>kMul
theorem rowf_up {nt:NT} {kinds:ByteArray->Option Nat} {f f':Nat} {x:Except Nat (GT×GSt)} (hf:f<=f') (h:rowL s (pars s f nt) kinds f a st1=some x):rowL s (pars s f' nt) kinds f' a st1=some x :=
 rowL_up (pars_up hf nt) kinds f f' _ _ _ hf h
theorem ev_row {nt:NT} (hn:nt=.guard\/nt=.side\/nt=.sum\/nt=.product) {x:GT×GSt} (h:Ev s (subOf nt) st (a,st1)) (hr:∃f,rowL s (pars s f (subOf nt)) (kindOf nt) f a st1=some (.ok x)):Ev s nt st x:=by
 obtain ⟨f,h⟩:=h
 obtain ⟨f',hr⟩:=hr
 have h1:=pars_up (Nat.le_max_left f f') _ _ _ h
 have h2:=rowf_up (Nat.le_max_right f f') hr
 rcases hn with rfl | rfl | rfl | rfl
 all_goals
  refine ⟨max f f' + 1,?_⟩
  rw [pars]
  simp only [subOf,kindOf] at h1 h2
  rw [h1]
  exact h2
theorem ev_up {nt:NT} (hn:nt=.guard\/nt=.side\/nt=.sum\/nt=.product) (h:Ev s (subOf nt) st (a,st1)) (hk:kindOf nt st1.now=none):Ev s nt st (a,st1) :=
 ev_row hn h ⟨1,by rw [rowL,hk]⟩
theorem ev_two {nt:NT} (hn:nt=.guard\/nt=.side\/nt=.sum\/nt=.product) (h:Ev s (subOf nt) st (a,st1)) (hk:kindOf nt st1.now=some k) (hs:stepB s st1.i=.ok st2) (h2:Ev s (subOf nt) st2 (b,st3)) (h3:kindOf nt st3.now=none):Ev s nt st (.two k a b,st3):=by
 obtain ⟨f,h2⟩:=h2
 refine ev_row hn h ⟨f+2,?_⟩
 rw [rowL,hk]
 simp only [hs]
 rw [pars_up (by omega:f<=f+2) _ _ _ h2]
 simp only
 rw [rowL,h3]
theorem ev_part (h:Ev s .sum st (a,st1)) (hn:st.now≠notS) (hk:kRel st1.now=none):Ev s .part st (a,st1):=by
 obtain ⟨f,h⟩:=h
 refine ⟨f+1,?_⟩
 rw [pars,if_neg hn,h]
 simp only [thenP,hk]
theorem ev_rel (h:Ev s .sum st (a,st1)) (hn:st.now≠notS) (hk:kRel st1.now=some k) (hs:stepB s st1.i=.ok st2) (h2:Ev s .sum st2 (b,st3)):Ev s .part st (.two k a b,st3):=by
 obtain ⟨f,-,h,h2⟩:=h.two h2
 refine ⟨f+1,?_⟩
 rw [pars,if_neg hn,h]
 simp only [thenP,hk,hs,thenS,h2]
theorem ev_not (hn:st.now=notS) (hs:stepB s st.i=.ok st1) (h:Ev s .part st1 (a,st2)):Ev s .part st (.one 8 a,st2):=by
 obtain ⟨f,h⟩:=h
 refine ⟨f+1,?_⟩
 rw [pars,if_pos hn,hs]
 simp only [thenS,h,thenP]
theorem atom_notnot (h:Ev s .atom st (a,st1)):st.now≠notS:=by
 intro hn
 obtain ⟨f,h⟩:=h
 cases f with
 | zero=>cases h
 | succ f =>
  rw [at7 (by rw [hn];decide) (by rw [hn];decide) (by rw [hn];decide) (by rw [hn];decide) (by rw [hn];decide) (by rw [hn];decide),if_neg (by rw [hn];decide)] at h
  cases h
end
def Ends (x:ByteArray):Prop:=x=⟨#[]⟩\/x=rparS
theorem ends_none {x:ByteArray} (h:Ends x):kOr x=none/\kAnd x=none/\kRel x=none/\kSum x=none/\kMul x=none:=by
 rcases h with rfl | rfl<;>decide
theorem alone {s:ByteArray} {st st1:GSt} {a:GT} (h:Ev s .atom st (a,st1)) (hk:kOr st1.now=none/\kAnd st1.now=none/\kRel st1.now=none/\kSum st1.now=none/\kMul st1.now=none):Ev s .part st (a,st1)/\Ev s .side st (a,st1)/\Ev s .guard st (a,st1):=by
 obtain ⟨h1,h2,h3,h4,h5⟩:=hk
 have e1:=ev_up (nt:=.product) (by simp) h h5
 have e2:=ev_up (nt:=.sum) (by simp) e1 h4
 have e3:=ev_part e2 (atom_notnot h) h3
 have e4:=ev_up (nt:=.side) (by simp) e3 h2
 exact ⟨e3,e4,ev_up (nt:=.guard) (by simp) e4 h1⟩
theorem between {s:ByteArray} {st st1 st2 st3:GSt} {a b:GT} {k:Nat} (hk:9<=k/\k<=15) (h:Ev s .atom st (a,st1)) (hn:st1.now=⟨(opT k).toArray⟩) (hs:stepB s st1.i=.ok st2) (h2:Ev s .atom st2 (b,st3)) (he:Ends st3.now):Ev s .guard st (.two k a b,st3):=by
 obtain ⟨z1,z2,z3,z4,z5⟩:=ends_none he
 have hnn:=atom_notnot h
 have hnn2:=atom_notnot h2
 have bp:=ev_up (nt:=.product) (by simp) h2 z5
 have bs:=ev_up (nt:=.sum) (by simp) bp z4
 have bt:=ev_part bs hnn2 z3
 have bd:=ev_up (nt:=.side) (by simp) bt z2
 have:k=9\/k=10\/k=11\/k=12\/k=13\/k=14\/k=15:=by omega
 rcases this with rfl | rfl | rfl | rfl | rfl | rfl | rfl
 ·have e1:=ev_up (nt:=.product) (by simp) h (by rw [hn];decide)
  have e2:=ev_up (nt:=.sum) (by simp) e1 (by rw [hn];decide)
  have e3:=ev_part e2 hnn (by rw [hn];decide)
  have e4:=ev_two (nt:=.side) (by simp) e3 (k:=9) (by rw [hn];decide) hs bt z2
  exact ev_up (nt:=.guard) (by simp) e4 z1
 ·have e1:=ev_up (nt:=.product) (by simp) h (by rw [hn];decide)
  have e2:=ev_up (nt:=.sum) (by simp) e1 (by rw [hn];decide)
  have e3:=ev_part e2 hnn (by rw [hn];decide)
  have e4:=ev_up (nt:=.side) (by simp) e3 (by rw [hn];decide)
  exact ev_two (nt:=.guard) (by simp) e4 (k:=10) (by rw [hn];decide) hs bd z1
 ·have e1:=ev_up (nt:=.product) (by simp) h (by rw [hn];decide)
  have e2:=ev_up (nt:=.sum) (by simp) e1 (by rw [hn];decide)
  have e3:=ev_rel e2 hnn (k:=11) (by rw [hn];decide) hs bs
  exact ev_up (nt:=.guard) (by simp) (ev_up (nt:=.side) (by simp) e3 z2) z1
 ·have e1:=ev_up (nt:=.product) (by simp) h (by rw [hn];decide)
  have e2:=ev_up (nt:=.sum) (by simp) e1 (by rw [hn];decide)
  have e3:=ev_rel e2 hnn (k:=12) (by rw [hn];decide) hs bs
  exact ev_up (nt:=.guard) (by simp) (ev_up (nt:=.side) (by simp) e3 z2) z1
 ·have e1:=ev_up (nt:=.product) (by simp) h (by rw [hn];decide)
  have e2:=ev_two (nt:=.sum) (by simp) e1 (k:=13) (by rw [hn];decide) hs bp z4
  exact ev_up (nt:=.guard) (by simp) (ev_up (nt:=.side) (by simp) (ev_part e2 hnn z3) z2) z1
 ·have e1:=ev_up (nt:=.product) (by simp) h (by rw [hn];decide)
  have e2:=ev_two (nt:=.sum) (by simp) e1 (k:=14) (by rw [hn];decide) hs bp z4
  exact ev_up (nt:=.guard) (by simp) (ev_up (nt:=.side) (by simp) (ev_part e2 hnn z3) z2) z1
 have e1:=ev_two (nt:=.product) (by simp) h (k:=15) (by rw [hn];decide) hs h2 z5
 have e2:=ev_up (nt:=.sum) (by simp) e1 z4
 exact ev_up (nt:=.guard) (by simp) (ev_up (nt:=.side) (by simp) (ev_part e2 hnn z3) z2) z1
end Go.Proofs.YtfbbkmdhnkmonaaGreatDoor
namespace Go.Proofs.YtfbbkmdhnkmonaaGreatDoor
open Go.RowKit
def Behind (r:List UInt8):Prop:=(r=[]\/∃c t,r=c :: t/\(c=32\/c=41))/\Good (bl r)
theorem Behind.stop {r:List UInt8} (h:Behind r):Stop r:=by
 rcases h.1 with h1 | ⟨c,t,h1,hc⟩
 ·exact .inl h1
 exact .inr ⟨c,t,h1,by rcases hc with hc | hc;exact .inl hc;exact .inr (.inr hc)⟩
theorem now_list {st:GSt} {l:List UInt8} (h:st.now=⟨l.toArray⟩):st.now.data.toList=l:=by rw [h]
theorem now_ne {x y:ByteArray} {c:UInt8} (h:x.data.toList.headD 0=c) (hne:y.data.toList.headD 0≠c):¬x=y:=fun he=>hne (by rw [<-he,h])
theorem tok_size_pos {x:ByteArray} {c:UInt8} {l:List UInt8} (h:x.data.toList=c :: l):0<x.size:=by rw [<-ba_len,h];simp
theorem leaf_atom {s:ByteArray} {st:GSt} {k:Nat} {n:Int} {x:ByteArray} {r:List UInt8} (hm:(GT.leaf k n x).may) (h:AtL s st (leafT k n x++r)) (hr:Behind r):∃st',Ev s .atom st (.leaf k n x,st')/\AtL s st' (bl r):=by
 rcases hm with ⟨hk,rfl,rfl⟩ | ⟨rfl,h0,h1,rfl⟩ | ⟨rfl,rfl,hq⟩ | ⟨hk,rfl,hn⟩
 ·rcases hk with rfl | rfl
  ·have tk:Tk [116,114,117,101] r:=tk_word (c:=116) (x:=[114,117,101]) (by decide) (by decide) (by decide) hr.stop
   obtain ⟨st',hs,ha⟩:=AtL.next h tk hr.2
   exact ⟨st',⟨1,by rw [at1 (AtL.now_eq h tk),hs];rfl⟩,ha⟩
  have tk:Tk [102,97,108,115,101] r:=tk_word (c:=102) (x:=[97,108,115,101]) (by decide) (by decide) (by decide) hr.stop
  obtain ⟨st',hs,ha⟩:=AtL.next h tk hr.2
  exact ⟨st',⟨1,by rw [at2 (by rw [AtL.now_eq h tk];decide) (AtL.now_eq h tk),hs];rfl⟩,ha⟩
 ·obtain ⟨u,rfl⟩:∃u:Nat,n=u:=⟨n.toNat,by omega⟩
  have h:AtL s st (Lib.decDigits u++r):=h
  have hdig:=dec_dig u
  obtain ⟨c,l,hcl⟩:∃c l,Lib.decDigits u=c :: l:=by
   cases hd:Lib.decDigits u with
   | nil=>exact absurd hd (dec_ne u)
   | cons c l=>exact ⟨c,l,rfl⟩
  have hsp:=spell_dec u
  rw [hcl] at h hdig hsp
  have hc:48<=c.toNat/\c.toNat<=57:=hdig c (by simp)
  have hall:l.all digitB=true:=List.all_eq_true.2 fun a ha=>by
   have:=hdig a (by simp [ha])
   simpa [digitB,isDig] using this
  have tk:Tk (c :: l) r:=by
   by_cases hu:u=0
   ·subst hu
    rw [Lib.decDigits_one (by decide)] at hcl
    injection hcl with e1 e2
    subst e1;subst e2
    exact tk_sign (by decide) r
   have hh:=dec_head u (by omega)
   rw [hcl] at hh
   have h48:c.toNat≠48:=fun he=>hh (by rw [UInt8.toNat_inj.1 (show c.toNat=(48:UInt8).toNat from he)];rfl)
   exact tk_digits (by omega) hall (by rw [hsp];omega) hr.stop
  obtain ⟨st',hs,ha⟩:=AtL.next h tk hr.2
  have hnow:=now_list (AtL.now_eq h tk)
  have hhd:st.now.data.toList.headD 0=c:=by rw [hnow];rfl
  have hcn:∀y:UInt8,digitB y=false->y≠c:=fun y hy he=>by
   subst he
   have:digitB y=true:=by simpa [digitB] using hc
   rw [this] at hy;cases hy
  refine ⟨st',⟨1,?_⟩,ha⟩
  rw [at5 (now_ne hhd (hcn _ (by decide))) (now_ne hhd (hcn _ (by decide))) (by rintro (h | h);exact now_ne hhd (hcn _ (by decide)) h;exact now_ne hhd (hcn _ (by decide)) h) (now_ne hhd (hcn _ (by decide))) ⟨tok_size_pos hnow,by rw [hhd];simpa [digitB] using hc⟩,hs,hnow,hsp]
  rfl
 ·have tk:Tk (39 :: (x.data.toList++[39])) r:=tk_quote hq
  obtain ⟨st',hs,ha⟩:=AtL.next h tk hr.2
  have hnow:st.now.data.toList=39 :: (x.data.toList++[39]):=now_list (AtL.now_eq h tk)
  have hhd:st.now.data.toList.headD 0=39:=by rw [hnow];rfl
  have hsz:st.now.size=x.size+2:=by
   have h1:=congrArg List.length hnow
   rw [ba_len,List.length_cons,List.length_append,ba_len] at h1
   exact h1
  have hex:st.now.extract 1 (st.now.size-1)=x:=by
   refine ByteArray.ext (Array.ext' ?_)
   simp only [ByteArray.data_extract,Array.toList_extract]
   show (st.now.data.toList.drop 1).take (st.now.size-1-1)=x.data.toList
   rw [hnow,hsz]
   show (x.data.toList++[39]).take (x.size+2-1-1)=_
   rw [show x.size+2-1-1=x.data.toList.length by rw [ba_len];omega,List.take_left]
  refine ⟨st',⟨1,?_⟩,ha⟩
  rw [at6 (now_ne hhd (by decide)) (now_ne hhd (by decide)) (by rintro (h | h);exact now_ne hhd (by decide) h;exact now_ne hhd (by decide) h) (now_ne hhd (by decide)) (fun h=>absurd h.2 (by rw [hhd];decide)) ⟨tok_size_pos hnow,hhd⟩,hs,hex]
  rfl
 have hn2:=hn
 unfold namedG at hn2
 simp only [Bool.and_eq_true,decide_eq_true_eq,Bool.not_eq_true'] at hn2
 obtain ⟨⟨⟨⟨hn1,hn2⟩,hn3⟩,hn4⟩,hn5⟩:=hn2
 obtain ⟨c,l,hcl⟩:∃c l,x.data.toList=c :: l:=by
  cases hd:x.data.toList with
  | nil=>rw [<-ba_len,hd] at hn1;simp at hn1
  | cons c l=>exact ⟨c,l,rfl⟩
 have hc:97<=c.toNat/\c.toNat<=122:=by rw [hcl] at hn3;exact hn3
 have hl:l.all letterB=true:=by rw [hcl,List.all_cons,Bool.and_eq_true] at hn5;exact hn5.2
 have hlen:l.length<32:=by rw [<-ba_len,hcl,List.length_cons] at hn2;omega
 have tkx:∀r,Stop r->Tk x.data.toList r:=fun r hr=>by rw [hcl];exact tk_word hc hl hlen hr
 have hnt:¬(x=trueS)/\¬(x=falseS)/\¬(x=openS\/x=doneS):=by
  have:¬(x=andS\/x=orS\/x=notS\/x=trueS\/x=falseS\/x=openS\/x=doneS):=by simpa [takenB] using hn4
  refine ⟨fun h=>this (by simp [h]),fun h=>this (by simp [h]),fun h=>this ?_⟩
  rcases h with h | h<;>simp [h]
 have hxc:x.data.toList.headD 0=c:=by rw [hcl];rfl
 rcases hk with rfl | rfl | rfl
 ·have h:AtL s st (x.data.toList++r):=h
  have tk:=tkx r hr.stop
  obtain ⟨st',hs,ha⟩:=AtL.next h tk hr.2
  have hnow:st.now=x:=(AtL.now_eq h tk)
  have hcn:∀y:UInt8,¬(97<=y.toNat/\y.toNat<=122)->y≠c:=fun y hy he=>hy (he▸hc)
  refine ⟨st',⟨1,?_⟩,ha⟩
  rw [at7 (by rw [hnow];exact hnt.1) (by rw [hnow];exact hnt.2.1) (by rw [hnow];exact hnt.2.2) (by rw [hnow];exact now_ne hxc (hcn _ (by decide))) (fun h=>by
   have h2:=h.2
   rw [hnow,hxc] at h2
   simp only [digitB,decide_eq_true_eq] at h2
   omega) (fun h=>by
   have h2:=h.2
   rw [hnow,hxc] at h2
   subst h2
   exact absurd hc.1 (by decide)),hnow,if_pos hn,hs]
  rfl
 ·have h:AtL s st ([111,112,101,110]++([40]++(x.data.toList++([41]++r)))):=by
   have:leafT 6 0 x++r=[111,112,101,110]++([40]++(x.data.toList++([41]++r))):=by simp [leafT]
   rw [<-this];exact h
  have sx:Stop ([41]++r):=.inr ⟨41,r,rfl,.inr (.inr rfl)⟩
  have k1:Tk [111,112,101,110] ([40]++(x.data.toList++([41]++r))):=tk_word (c:=111) (x:=[112,101,110]) (by decide) (by decide) (by decide) (.inr ⟨40,_,rfl,.inr (.inl rfl)⟩)
  have k2:Tk [40] (x.data.toList++([41]++r)):=tk_sign (by decide) _
  have k3:=tkx ([41]++r) sx
  have k4:Tk [41] r:=tk_sign (by decide) _
  have b2:bl ([40]++(x.data.toList++([41]++r)))=[40]++(x.data.toList++([41]++r)):=bl_cons (by decide) _
  have b3:bl (x.data.toList++([41]++r))=x.data.toList++([41]++r):=by rw [hcl];exact bl_cons (by rintro rfl;exact absurd hc.1 (by decide)) _
  have b4:bl ([41]++r)=[41]++r:=bl_cons (by decide) _
  obtain ⟨s1,e1,a1⟩:=AtL.next h k1 (by rw [b2];exact good_tk k2)
  rw [b2] at a1
  obtain ⟨s2,e2,a2⟩:=AtL.next a1 k2 (by rw [b3];exact good_tk k3)
  rw [b3] at a2
  obtain ⟨s3,e3,a3⟩:=AtL.next a2 k3 (by rw [b4];exact good_tk k4)
  rw [b4] at a3
  obtain ⟨s4,e4,a4⟩:=AtL.next a3 k4 hr.2
  have n0:st.now=openS:=AtL.now_eq h k1
  have n1:s1.now=lparS:=AtL.now_eq a1 k2
  have n2:s2.now=x:=AtL.now_eq a2 k3
  have n3:s3.now=rparS:=AtL.now_eq a3 k4
  refine ⟨s4,⟨1,?_⟩,a4⟩
  rw [at3 (by rw [n0];decide) (by rw [n0];decide) (.inl n0),e1]
  simp only [thenS,needB]
  rw [if_pos n1,e2]
  simp only
  rw [n2,if_pos hn,e3]
  simp only
  rw [if_pos n3,e4]
  simp only
  rw [if_neg (by rw [n0];decide)]
 have h:AtL s st ([100,111,110,101]++([40]++(x.data.toList++([41]++r)))):=by
  have:leafT 7 0 x++r=[100,111,110,101]++([40]++(x.data.toList++([41]++r))):=by simp [leafT]
  rw [<-this];exact h
 have sx:Stop ([41]++r):=.inr ⟨41,r,rfl,.inr (.inr rfl)⟩
 have k1:Tk [100,111,110,101] ([40]++(x.data.toList++([41]++r))):=tk_word (c:=100) (x:=[111,110,101]) (by decide) (by decide) (by decide) (.inr ⟨40,_,rfl,.inr (.inl rfl)⟩)
 have k2:Tk [40] (x.data.toList++([41]++r)):=tk_sign (by decide) _
 have k3:=tkx ([41]++r) sx
 have k4:Tk [41] r:=tk_sign (by decide) _
 have b2:bl ([40]++(x.data.toList++([41]++r)))=[40]++(x.data.toList++([41]++r)):=bl_cons (by decide) _
 have b3:bl (x.data.toList++([41]++r))=x.data.toList++([41]++r):=by rw [hcl];exact bl_cons (by rintro rfl;exact absurd hc.1 (by decide)) _
 have b4:bl ([41]++r)=[41]++r:=bl_cons (by decide) _
 obtain ⟨s1,e1,a1⟩:=AtL.next h k1 (by rw [b2];exact good_tk k2)
 rw [b2] at a1
 obtain ⟨s2,e2,a2⟩:=AtL.next a1 k2 (by rw [b3];exact good_tk k3)
 rw [b3] at a2
 obtain ⟨s3,e3,a3⟩:=AtL.next a2 k3 (by rw [b4];exact good_tk k4)
 rw [b4] at a3
 obtain ⟨s4,e4,a4⟩:=AtL.next a3 k4 hr.2
 have n0:st.now=doneS:=AtL.now_eq h k1
 have n1:s1.now=lparS:=AtL.now_eq a1 k2
 have n2:s2.now=x:=AtL.now_eq a2 k3
 have n3:s3.now=rparS:=AtL.now_eq a3 k4
 refine ⟨s4,⟨1,?_⟩,a4⟩
 rw [at3 (by rw [n0];decide) (by rw [n0];decide) (.inr n0),e1]
 simp only [thenS,needB]
 rw [if_pos n1,e2]
 simp only
 rw [n2,if_pos hn,e3]
 simp only
 rw [if_pos n3,e4]
 simp only
 rw [if_pos n0]
theorem kid_good:∀ {t:GT},t.may->∀r,Behind r->Good (t.kid++r)/\bl (t.kid++r)=t.kid++r
 | .leaf k n x,hm,r,hr=>by
  show Good (leafT k n x++r)/\bl (leafT k n x++r)=leafT k n x++r
  rcases hm with ⟨hk,rfl,rfl⟩ | ⟨rfl,h0,h1,rfl⟩ | ⟨rfl,rfl,hq⟩ | ⟨hk,rfl,hn⟩
  ·rcases hk with rfl | rfl
   ·exact ⟨good_tk (tk_word (c:=116) (x:=[114,117,101]) (by decide) (by decide) (by decide) hr.stop),bl_cons (by decide) _⟩
   exact ⟨good_tk (tk_word (c:=102) (x:=[97,108,115,101]) (by decide) (by decide) (by decide) hr.stop),bl_cons (by decide) _⟩
  ·have hdig:=dec_dig n.toNat
   obtain ⟨c,l,hcl⟩:∃c l,Lib.decDigits n.toNat=c :: l:=by
    cases hd:Lib.decDigits n.toNat with
    | nil=>exact absurd hd (dec_ne _)
    | cons c l=>exact ⟨c,l,rfl⟩
   have hc:48<=c.toNat/\c.toNat<=57:=hdig c (by rw [hcl];simp)
   show Good (Lib.decDigits n.toNat++r)/\bl (Lib.decDigits n.toNat++r)=Lib.decDigits n.toNat++r
   have hsp:=spell_dec n.toNat
   have hall:l.all digitB=true:=List.all_eq_true.2 fun a ha=>by
    have:=hdig a (by rw [hcl];simp [ha])
    simpa [digitB,isDig] using this
   rw [hcl] at hsp ⊢
   refine ⟨good_tk ?_,bl_cons (by rintro rfl;exact absurd hc.1 (by decide)) _⟩
   by_cases h48:c=48
   ·by_cases hu:n.toNat=0
    ·rw [hu,Lib.decDigits_one (by decide)] at hcl
     injection hcl with e1 e2
     subst e1;subst e2
     exact tk_sign (by decide) r
    exact absurd (by rw [hcl,h48];rfl) (dec_head n.toNat (by omega))
   exact tk_digits ⟨by have:c.toNat≠48:=fun he=>h48 (UInt8.toNat_inj.1 he);omega,hc.2⟩ hall (by rw [hsp];omega) hr.stop
  ·exact ⟨good_tk (tk_quote hq),bl_cons (by decide) _⟩
  unfold namedG at hn
  simp only [Bool.and_eq_true,decide_eq_true_eq,Bool.not_eq_true'] at hn
  obtain ⟨⟨⟨⟨hn1,hn2⟩,hn3⟩,hn4⟩,hn5⟩:=hn
  rcases hk with rfl | rfl | rfl
  ·obtain ⟨c,l,hcl⟩:∃c l,x.data.toList=c :: l:=by
    cases hd:x.data.toList with
    | nil=>rw [<-ba_len,hd] at hn1;simp at hn1
    | cons c l=>exact ⟨c,l,rfl⟩
   have hc:97<=c.toNat/\c.toNat<=122:=by rw [hcl] at hn3;exact hn3
   have hl:l.all letterB=true:=by rw [hcl,List.all_cons,Bool.and_eq_true] at hn5;exact hn5.2
   have hlen:l.length<32:=by rw [<-ba_len,hcl,List.length_cons] at hn2;omega
   show Good (x.data.toList++r)/\bl (x.data.toList++r)=x.data.toList++r
   rw [hcl]
   exact ⟨good_tk (tk_word hc hl hlen hr.stop),bl_cons (by rintro rfl;exact absurd hc.1 (by decide)) _⟩
  ·show Good (([111,112,101,110,40]++(x.data.toList++[41]))++r)/\_
   have:leafT 6 0 x++r=[111,112,101,110]++(40 :: (x.data.toList++[41]++r)):=by simp [leafT]
   rw [show ([111,112,101,110,40]++(x.data.toList++[41]))++r=[111,112,101,110]++(40 :: (x.data.toList++[41]++r)) from this,this]
   exact ⟨good_tk (tk_word (c:=111) (x:=[112,101,110]) (by decide) (by decide) (by decide) (.inr ⟨40,_,rfl,.inr (.inl rfl)⟩)),bl_cons (by decide) _⟩
  show Good (([100,111,110,101,40]++(x.data.toList++[41]))++r)/\_
  have:leafT 7 0 x++r=[100,111,110,101]++(40 :: (x.data.toList++[41]++r)):=by simp [leafT]
  rw [show ([100,111,110,101,40]++(x.data.toList++[41]))++r=[100,111,110,101]++(40 :: (x.data.toList++[41]++r)) from this,this]
  exact ⟨good_tk (tk_word (c:=100) (x:=[111,110,101]) (by decide) (by decide) (by decide) (.inr ⟨40,_,rfl,.inr (.inl rfl)⟩)),bl_cons (by decide) _⟩
 | .one ..,_,r,_=>⟨good_tk (x:=[40]) (tk_sign (by decide) _),bl_cons (by decide) _⟩
 | .two ..,_,r,_=>⟨good_tk (x:=[40]) (tk_sign (by decide) _),bl_cons (by decide) _⟩
def EndL (r:List UInt8):Prop:=r=[]\/∃t,r=41 :: t
theorem EndL.behind {r:List UInt8} (h:EndL r):Behind r/\bl r=r:=by
 rcases h with rfl | ⟨t,rfl⟩
 ·exact ⟨⟨.inl rfl,.inl rfl⟩,rfl⟩
 have hb:bl (41 :: t)=41 :: t:=bl_cons (by decide) _
 exact ⟨⟨.inr ⟨41,t,rfl,.inr rfl⟩,by rw [hb];exact good_tk (x:=[41]) (tk_sign (by decide) _)⟩,hb⟩
theorem EndL.ends {s:ByteArray} {st:GSt} {r:List UInt8} (h:EndL r) (ha:AtL s st r):Ends st.now:=by
 rcases h with rfl | ⟨t,rfl⟩
 ·exact .inl ha.now_nil
 exact .inr (AtL.now_eq (x:=[41]) ha (tk_sign (by decide) _))
theorem paren_atom {s:ByteArray} {st:GSt} {t:GT} {r:List UInt8} (h:AtL s st ([40]++(t.txt++([41]++r)))) (hb:bl (t.txt++([41]++r))=t.txt++([41]++r)) (hg:Good (t.txt++([41]++r))) (hr:Behind r)
  (ih:∀(st:GSt) (r:List UInt8),AtL s st (t.txt++r)->EndL r->∃st',Ev s .guard st (t,st')/\AtL s st' r):∃st',Ev s .atom st (t,st')/\AtL s st' (bl r):=by
 have k1:Tk [40] (t.txt++([41]++r)):=tk_sign (by decide) _
 have k2:Tk [41] r:=tk_sign (by decide) _
 obtain ⟨s1,e1,a1⟩:=AtL.next h k1 (by rw [hb];exact hg)
 rw [hb] at a1
 obtain ⟨s2,⟨f,e2⟩,a2⟩:=ih s1 ([41]++r) a1 (.inr ⟨r,rfl⟩)
 obtain ⟨s3,e3,a3⟩:=AtL.next a2 k2 hr.2
 have n0:st.now=lparS:=AtL.now_eq h k1
 have n2:s2.now=rparS:=AtL.now_eq a2 k2
 refine ⟨s3,⟨f+1,?_⟩,a3⟩
 rw [at4 (by rw [n0];decide) (by rw [n0];decide) (by rw [n0];decide) n0,e1]
 simp only [thenS,e2,thenP,needB]
 rw [if_pos n2,e3]
theorem text_back (s:ByteArray):∀t:GT,t.may->(∀(st:GSt) (r:List UInt8),AtL s st (t.kid++r)->Behind r->∃st',Ev s .atom st (t,st')/\AtL s st' (bl r))/\(∀(st:GSt) (r:List UInt8),AtL s st (t.txt++r)->EndL r->∃st',Ev s .guard st (t,st')/\AtL s st' r)
 | .leaf k n x,hm=>by
  have ha:∀(st:GSt) (r:List UInt8),AtL s st (leafT k n x++r)->Behind r->∃st',Ev s .atom st (.leaf k n x,st')/\AtL s st' (bl r):=fun st r h hr=>leaf_atom hm h hr
  refine ⟨ha,fun st r h hr=>?_⟩
  obtain ⟨hb,he⟩:=hr.behind
  obtain ⟨st',e1,a1⟩:=ha st r h hb
  rw [he] at a1
  exact ⟨st',(alone e1 (ends_none (hr.ends a1))).2.2,a1⟩
 | .one k a,hm=>by
  obtain ⟨rfl,hma⟩:=hm
  have iha:=text_back s a hma
  have key:∀(st:GSt) (r:List UInt8),AtL s st ((GT.one 8 a).txt++r)->EndL r->∃st',Ev s .guard st (.one 8 a,st')/\AtL s st' r:=fun st r h hr=>by
   obtain ⟨hb,he⟩:=hr.behind
   have h:AtL s st ([110,111,116]++(32 :: (a.kid++r))):=by
    have:(GT.one 8 a).txt++r=[110,111,116]++(32 :: (a.kid++r)):=by simp [GT.txt]
    rw [<-this];exact h
   have k1:Tk [110,111,116] (32 :: (a.kid++r)):=tk_word (c:=110) (x:=[111,116]) (by decide) (by decide) (by decide) (.inr ⟨32,_,rfl,.inl rfl⟩)
   obtain ⟨hg,hbk⟩:=kid_good hma r hb
   obtain ⟨s1,e1,a1⟩:=AtL.next h k1 (by rw [bl_space,hbk];exact hg)
   rw [bl_space,hbk] at a1
   obtain ⟨s2,e2,a2⟩:=iha.1 s1 r a1 hb
   rw [he] at a2
   obtain ⟨z1,z2,z3,z4,z5⟩:=ends_none (hr.ends a2)
   have e3:=ev_not (AtL.now_eq h k1) e1 (alone e2 ⟨z1,z2,z3,z4,z5⟩).1
   exact ⟨s2,ev_up (nt:=.guard) (by simp) (ev_up (nt:=.side) (by simp) e3 z2) z1,a2⟩
  refine ⟨fun st r h hr=>?_,key⟩
  have h:AtL s st ([40]++((GT.one 8 a).txt++([41]++r))):=by
   have:(GT.one 8 a).kid++r=[40]++((GT.one 8 a).txt++([41]++r)):=by simp [GT.kid,GT.isLeaf,wrapT]
   rw [<-this];exact h
  refine paren_atom h ?_ ?_ hr key
  ·exact bl_cons (by decide) _
  have:(GT.one 8 a).txt++([41]++r)=[110,111,116]++(32 :: (a.kid++([41]++r))):=by simp [GT.txt]
  rw [this]
  exact good_tk (tk_word (c:=110) (x:=[111,116]) (by decide) (by decide) (by decide) (.inr ⟨32,_,rfl,.inl rfl⟩))
 | .two k a b,hm=>by
  obtain ⟨hk,hma,hmb⟩:=hm
  have iha:=text_back s a hma
  have ihb:=text_back s b hmb
  have split:∀r,(GT.two k a b).txt++r=a.kid++(32 :: (opT k++(32 :: (b.kid++r)))):=fun r=>by simp [GT.txt]
  have behA:∀r,Behind (32 :: (opT k++(32 :: (b.kid++r)))):=fun r=>by
   obtain ⟨kt,kb⟩:=op_tk hk (b.kid++r)
   exact ⟨.inr ⟨32,_,rfl,.inl rfl⟩,by rw [bl_space,kb];exact good_tk kt⟩
  have key:∀(st:GSt) (r:List UInt8),AtL s st ((GT.two k a b).txt++r)->EndL r->∃st',Ev s .guard st (.two k a b,st')/\AtL s st' r:=fun st r h hr=>by
   obtain ⟨hb,he⟩:=hr.behind
   rw [split] at h
   obtain ⟨kt,kb⟩:=op_tk hk (b.kid++r)
   obtain ⟨s1,e1,a1⟩:=iha.1 st _ h (behA r)
   rw [bl_space,kb] at a1
   obtain ⟨hg,hbk⟩:=kid_good hmb r hb
   obtain ⟨s2,e2,a2⟩:=AtL.next a1 kt (by rw [bl_space,hbk];exact hg)
   rw [bl_space,hbk] at a2
   obtain ⟨s3,e3,a3⟩:=ihb.1 s2 r a2 hb
   rw [he] at a3
   exact ⟨s3,between hk e1 (AtL.now_eq a1 kt) e2 e3 (hr.ends a3),a3⟩
  refine ⟨fun st r h hr=>?_,key⟩
  have h:AtL s st ([40]++((GT.two k a b).txt++([41]++r))):=by
   have:(GT.two k a b).kid++r=[40]++((GT.two k a b).txt++([41]++r)):=by simp [GT.kid,GT.isLeaf,wrapT]
   rw [<-this];exact h
  obtain ⟨hg,hb⟩:=kid_good hma _ (behA ([41]++r))
  refine paren_atom h ?_ ?_ hr key
  ·rw [split];exact hb
  rw [split];exact hg
theorem read_back {t:GT} (hm:t.may) (hd:t.deep<=32):∃f,readG ⟨t.txt.toArray⟩ f=some (.ok t):=by
 have htl:(⟨t.txt.toArray⟩:ByteArray).data.toList=t.txt:=rfl
 have hgb:Good (bl t.txt)/\bl t.txt=t.txt:=by
  cases t with
  | leaf k n x =>
   have h:=kid_good hm [] ⟨.inl rfl,.inl rfl⟩
   rw [List.append_nil] at h
   exact ⟨by show Good (bl (GT.leaf k n x).kid);rw [h.2];exact h.1,h.2⟩
  | one k a =>
   have hb:bl (GT.one k a).txt=(GT.one k a).txt:=bl_cons (by decide) _
   refine ⟨?_,hb⟩
   rw [hb]
   have:(GT.one k a).txt=[110,111,116]++(32 :: a.kid):=by simp [GT.txt]
   rw [this]
   exact good_tk (tk_word (c:=110) (x:=[111,116]) (by decide) (by decide) (by decide) (.inr ⟨32,_,rfl,.inl rfl⟩))
  | two k a b =>
   have hk:=hm.1
   have h:=kid_good hm.2.1 (32 :: (opT k++(32 :: b.kid))) (by
    obtain ⟨kt,kb⟩:=op_tk hk b.kid
    exact ⟨.inr ⟨32,_,rfl,.inl rfl⟩,by rw [bl_space,kb];exact good_tk kt⟩)
   have:(GT.two k a b).txt=a.kid++(32 :: (opT k++(32 :: b.kid))):=by simp [GT.txt]
   rw [this]
   exact ⟨by rw [h.2];exact h.1,h.2⟩
 obtain ⟨st,e1,a1⟩:=step_at (s:=⟨t.txt.toArray⟩) (i:=0) (Nat.zero_le _) (by rw [List.drop_zero,htl];exact hgb.1)
 rw [List.drop_zero,htl,hgb.2] at a1
 obtain ⟨st',⟨f,e2⟩,a2⟩:=(text_back ⟨t.txt.toArray⟩ t hm).2 st [] (by rw [List.append_nil];exact a1) (.inl rfl)
 refine ⟨f,?_⟩
 rw [readG,e1]
 simp only
 rw [e2]
 simp only
 rw [if_neg (by rw [a2.now_nil];decide),if_neg (by omega)]
end Go.Proofs.YtfbbkmdhnkmonaaGreatDoor
