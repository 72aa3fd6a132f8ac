/- Proved, each under the conditions that it names: docketlaw18.ModelOrders, walked: it returns true. -/
import Derived.Test.YtfbbkmdhnkmonaaGreatDoorT26
set_option maxRecDepth 100000
set_option maxHeartbeats 32000000
namespace Go.Proofs.YtfbbkmdhnkmonaaGreatDoor
open Go.RowKit
theorem ne_pl (x y z:Int) (W:World):(binOp .neq 33 (.agg #[.int .i64 x,.int .i64 y,.int .i64 z]) (.agg #[.int .i64 x,.int .i64 y,.int .i64 z])).run Tryz.prog W=.ok (.bool false) W:=by
 have h:=eqPl.1 (x,y,z) (x,y,z) W
 have hpe:plEq (x,y,z) (x,y,z)=true:=by rw [plEq_eq];simp
 rw [hpe] at h
 have h2:(binOp .eql 33 (.agg #[.int .i64 x,.int .i64 y,.int .i64 z]) (.agg #[.int .i64 x,.int .i64 y,.int .i64 z])).run Tryz.prog W=.ok (.bool true) W:=h
 rw [run_eql_struct] at h2
 rw [run_neq_struct]
 generalize Sem.run Tryz.prog (Op.equalIn 10000 33 (Value.agg #[.int .i64 x,.int .i64 y,.int .i64 z]) (Value.agg #[.int .i64 x,.int .i64 y,.int .i64 z])) W=r at h2 ⊢
 cases r<;>simp [Result.andThen] at h2 ⊢
 exact h2
theorem orders_walk (md:ModelD) (v:ModelV) (a b:Pl) (w:World) (hz:md.Sml) (ht:md.Txt) (hM:ModelM false (From 0) w md v) (hv:GRng w) :
  Calls Tryz.prog 4 #[.agg (v.cs md).toArray,plV a,plV b] w (fun e w'=>e=.returned (.bool true)/\Below w.heap.size w w'):=by
 obtain ⟨va1,vc1,va2,vc2,va3,vc3,va4,vc4,va5,vc5⟩:=v
 obtain ⟨p0,p1,p2⟩:=a
 obtain ⟨q0,q1,q2⟩:=b
 simp only [plV]
 obtain ⟨wa,hwa⟩:∃wa,w.alloc (.cells (ModelV.cs ⟨va1,vc1,va2,vc2,va3,vc3,va4,vc4,va5,vc5⟩ md).toArray 31)=wa:=⟨_,rfl⟩
 obtain ⟨w1,hw1⟩:∃w1,(wa.alloc (.cells #[.int .i64 p0,.int .i64 p1,.int .i64 p2] 33)).alloc (.cells #[.int .i64 q0,.int .i64 q1,.int .i64 q2] 33)=w1:=⟨_,rfl⟩
 have hza:wa.heap.size=w.heap.size+1:=by rw [<-hwa,size_alloc]
 have hba:Below w.heap.size w wa:=hwa▸(Below.refl _ _).alloc (Nat.le_refl _) _
 have hb1:Below w.heap.size w w1:=hw1▸(hba.alloc (by omega) _).alloc (by rw [size_alloc];omega) _
 have hxm:Arr w1 w.heap.size 31 (ModelV.cs ⟨va1,vc1,va2,vc2,va3,vc3,va4,vc4,va5,vc5⟩ md):=hw1▸((show Arr wa _ _ _ from hwa▸Arr.new w (ModelV.cs ⟨va1,vc1,va2,vc2,va3,vc3,va4,vc4,va5,vc5⟩ md) _).alloc _).alloc _
 have hxa:Arr w1 (w.heap.size+1) 33 [.int .i64 p0,.int .i64 p1,.int .i64 p2]:=hw1▸(show Arr _ (w.heap.size+1) _ _ from ⟨alloc_at (by rw [hza])⟩).alloc _
 have hxb:Arr w1 (w.heap.size+1+1) 33 [.int .i64 q0,.int .i64 q1,.int .i64 q2]:=hw1▸⟨alloc_at (by rw [size_alloc,hza])⟩
 have HM:=hid (fun W (hb:Below w1.heap.size w1 W)=>hM.grow (hb1.trans (hb.mono hb1.size)))
 have HV:=hid (fun W (hb:Below w1.heap.size w1 W)=>hv.below (hb1.trans (hb.mono hb1.size)))
 have HSW:Hid (∀W',Below w1.heap.size w1 W'->W'.cell? ⟨w.heap.size,0,none⟩=some (.string md.name)/\W'.cell? ⟨w.heap.size,1,none⟩=some (.slice va1 md.attrs.length vc1)/\W'.cell? ⟨w.heap.size,2,none⟩=some (.slice va2 md.events.length vc2)/\W'.cell? ⟨w.heap.size,3,none⟩=some (.slice va3 md.stages.length vc3)/\W'.cell? ⟨w.heap.size,4,none⟩=some (.slice va4 md.stones.length vc4)/\W'.cell? ⟨w.heap.size,5,none⟩=some (.slice va5 md.apart.length vc5)/\W'.cell? ⟨w.heap.size+1,0,none⟩=some (.int .i64 p0)/\W'.cell? ⟨w.heap.size+1,1,none⟩=some (.int .i64 p1)/\W'.cell? ⟨w.heap.size+1,2,none⟩=some (.int .i64 p2)/\W'.cell? ⟨w.heap.size+1+1,0,none⟩=some (.int .i64 q0)/\W'.cell? ⟨w.heap.size+1+1,1,none⟩=some (.int .i64 q1)/\W'.cell? ⟨w.heap.size+1+1,2,none⟩=some (.int .i64 q2)):=fun W' hb=>by
  obtain ⟨m0,m1,m2,m3,m4,m5⟩:=box6 hxm hb
  exact ⟨m0,m1,m2,m3,m4,m5,cellBelow2 hb (hxa.cell (j:=0) (by simp)),cellBelow2 hb (hxa.cell (j:=1) (by simp)),cellBelow2 hb (hxa.cell (j:=2) (by simp)),cellBelow2 hb (hxb.cell (j:=0) (by simp)),cellBelow2 hb (hxb.cell (j:=1) (by simp)),cellBelow2 hb (hxb.cell (j:=2) (by simp))⟩
 have HWA:=hid hwa
 have HW1:=hid hw1
 have HB1:=hid hb1
 obtain ⟨q,hq⟩:∃q,checkE md=q:=⟨_,rfl⟩
 obtain ⟨⟨ra1,ra2⟩,hra⟩:∃r,leansA md (p0,p1,p2) (q0,q1,q2)=r:=⟨_,rfl⟩
 have HG:=hid (great_walk md ⟨va1,vc1,va2,vc2,va3,vc3,va4,vc4,va5,vc5⟩ w1 hz (hM.grow hb1))
 have HC1:=hid (fun W (hb:Below w1.heap.size w1 W)=>check_walk md ⟨va1,vc1,va2,vc2,va3,vc3,va4,vc4,va5,vc5⟩ W hz ht (HM.out W hb) (HV.out W hb))
 have HC2:=hid (fun W (hb:Below w1.heap.size w1 W)=>rfCheck_walk md ⟨va1,vc1,va2,vc2,va3,vc3,va4,vc4,va5,vc5⟩ W hz (HM.out W hb))
 have HO1:=hid (fun W (hb:Below w1.heap.size w1 W)=>order_walk md ⟨va1,vc1,va2,vc2,va3,vc3,va4,vc4,va5,vc5⟩ W hz ht (HM.out W hb) (HV.out W hb))
 have HO2:=hid (fun W (hb:Below w1.heap.size w1 W)=>rfOrd_walk md ⟨va1,vc1,va2,vc2,va3,vc3,va4,vc4,va5,vc5⟩ W hz (HM.out W hb))
 have HL1:=hid (fun W (hb:Below w1.heap.size w1 W)=>leansX_walk md ⟨va1,vc1,va2,vc2,va3,vc3,va4,vc4,va5,vc5⟩ (p0,p1,p2) (q0,q1,q2) W hz ht (HM.out W hb) (HV.out W hb))
 have HL2:=hid (fun W (hb:Below w1.heap.size w1 W)=>rfLeansX_walk md ⟨va1,vc1,va2,vc2,va3,vc3,va4,vc4,va5,vc5⟩ (p0,p1,p2) (q0,q1,q2) W hz (HM.out W hb))
 simp only [hq] at HC1 HC2
 simp only [hra,plV] at HL1 HL2
 have HQ:=hid hq
 obtain ⟨m0,m1,m2,m3,m4,m5,x0,x1,x2,z0,z1,z2⟩:=HSW.out w1 (Below.refl _ _)
 clear hM hv hb1 hxm hxa hxb hw1 hwa hz ht hq hba hza hra
 go_enter Tryz.func4,Tryz.ntmps4
 go_upto_region 1 with fail
 rw [HWA.out,HW1.out]
 go_wp2_with fail
 refine HG.out.mono ?_
 rintro e w2 ⟨⟨r,rfl⟩,hb2⟩
 have HB2:=hid hb2
 clear m0 m1 m2 m3 m4 m5 x0 x1 x2 z0 z1 z2 HG hb2
 obtain ⟨m0,m1,m2,m3,m4,m5,x0,x1,x2,z0,z1,z2⟩:=HSW.out w2 HB2.out
 cases r with
 | true =>
  have HE:=hid (HB1.out.trans (HB2.out.mono HB1.out.size))
  go_wp2_with fail
  go_ret
  exact ⟨rfl,HE.out⟩
 | false =>
  go_wp2_with fail
  refine (HO1.out _ HB2.out).mono ?_
  rintro e w3 ⟨hb3,oa,oc,rfl,hm1⟩
  have HB3:=hid (HB2.out.trans (hb3.mono HB2.out.size))
  rw [HQ.out]
  clear hb3 HO1 m0 m1 m2 m3 m4 m5 x0 x1 x2 z0 z1 z2
  obtain ⟨m0,m1,m2,m3,m4,m5,x0,x1,x2,z0,z1,z2⟩:=HSW.out w3 HB3.out
  go_wp2_with fail
  refine (HO2.out _ HB3.out).mono ?_
  rintro e w4 ⟨hb4,ea,ec,rfl,hm2⟩
  have HB4:=hid (HB3.out.trans (hb4.mono HB3.out.size))
  have HM1:=hid (hm1.grow hb4)
  have HM2:=hid hm2
  rw [HQ.out]
  clear hb4 hm1 hm2 HO2 m0 m1 m2 m3 m4 m5 x0 x1 x2 z0 z1 z2
  obtain ⟨m0,m1,m2,m3,m4,m5,x0,x1,x2,z0,z1,z2⟩:=HSW.out w4 HB4.out
  go_wp2_with fail
  refine (HL1.out _ HB4.out).mono ?_
  rintro e w5 ⟨rfl,hb5⟩
  have HB5:=hid (HB4.out.trans (hb5.mono HB4.out.size))
  have HB45:=hid hb5
  clear hb5 HL1 m0 m1 m2 m3 m4 m5 x0 x1 x2 z0 z1 z2
  obtain ⟨m0,m1,m2,m3,m4,m5,x0,x1,x2,z0,z1,z2⟩:=HSW.out w5 HB5.out
  go_wp2_with fail
  refine (HL2.out _ HB5.out).mono ?_
  rintro e w7 ⟨rfl,hb7⟩
  have HB7:=hid (HB5.out.trans (hb7.mono HB5.out.size))
  have hb47:=HB45.out.trans (hb7.mono HB45.out.size)
  obtain ⟨_,_,b1,o1,hv1,-,hC1⟩:=flat_open (HM1.out.grow hb47)
  injection hv1 with e1 e2 e3
  subst e1 e3
  obtain ⟨_,_,b2,o2,hv2,-,hC2⟩:=flat_open (HM2.out.grow hb47)
  injection hv2 with e1 e4 e3
  subst e1 e3
  have HF1:Hid (0<(ordA md).length->oa=some ⟨b1,o1,none⟩/\ea=some ⟨b2,o2,none⟩):=fun h=>⟨(hC1.at0 h).1,(hC2.at0 h).1⟩
  have HF2:Hid (∀W,Below w7.heap.size w7 W->∀m (hm:m<(ordA md).length) a0 a1 a2,(ordA md)[m]=(a0,a1,a2)->(W.cell? ⟨b1,o1+m*3,none⟩=some (.int .i64 a0)/\W.cell? ⟨b1,o1+m*3+1,none⟩=some (.int .i64 a1)/\W.cell? ⟨b1,o1+m*3+2,none⟩=some (.int .i64 a2)) /\
    (W.cell? ⟨b2,o2+m*3,none⟩=some (.int .i64 a0)/\W.cell? ⟨b2,o2+m*3+1,none⟩=some (.int .i64 a1)/\W.cell? ⟨b2,o2+m*3+2,none⟩=some (.int .i64 a2))):=fun W hb m hm a0 a1 a2 he=>by
   have c0:=(hC1.grow hb).cell m hm 0 _ rfl
   have c1:=(hC1.grow hb).cell m hm 1 _ rfl
   have c2:=(hC1.grow hb).cell m hm 2 _ rfl
   have d0:=(hC2.grow hb).cell m hm 0 _ rfl
   have d1:=(hC2.grow hb).cell m hm 1 _ rfl
   have d2:=(hC2.grow hb).cell m hm 2 _ rfl
   rw [he] at c0 c1 c2 d0 d1 d2
   exact ⟨⟨c0,c1,c2⟩,d0,d1,d2⟩
  have hno:(ordA md).length<=4000000:=by
   unfold ordA
   split
   ·rename_i h0
    have h1:=check_zero h0
    have h2:=many_of h1.2.1
    rw [h1.2.2.2,length_placesL];omega
   simp
  obtain ⟨N,hN⟩:∃N,(ordA md).length=N:=⟨_,rfl⟩
  have HN:=hid hN
  rw [hN] at hno HF1 ⊢
  clear hb7 hb47 hC1 hC2 HL2 HM1 HM2 e2 e4 hN m0 m1 m2 m3 m4 m5 x0 x1 x2 z0 z1 z2
  go_upto_region 7 with fail
  refine wp_region_held_drew (S:=(fun W'=>Below w7.heap.size w7 W')) (by kernel_rfl) (Below.refl w7.heap.size w7).drew (fun hH=>?_)
  generalize w7.drew=wz at hH ⊢
  refine tK (i:=0) (oi:=⟨some 42,.load 31 (.tmp 3),31,"law.go:99",#[],none⟩) (v:=.agg #[.string md.name,.slice va1 md.attrs.length vc1,.slice va2 md.events.length vc2,.slice va3 md.stages.length vc3,.slice va4 md.stones.length vc4,.slice va5 md.apart.length vc5]) (Or.inl ⟨by rfl,fun W hS=>by obtain ⟨m0,m1,m2,m3,m4,m5,-⟩:=HSW.out W (HB7.out.trans (hS.mono HB7.out.size));go_simp⟩) hH ?_
  refine tK (i:=2) (oi:=⟨some 44,.load 31 (.tmp 3),31,"law.go:99",#[],none⟩) (v:=.agg #[.string md.name,.slice va1 md.attrs.length vc1,.slice va2 md.events.length vc2,.slice va3 md.stages.length vc3,.slice va4 md.stones.length vc4,.slice va5 md.apart.length vc5]) (Or.inl ⟨by rfl,fun W hS=>by obtain ⟨m0,m1,m2,m3,m4,m5,-⟩:=HSW.out W (HB7.out.trans (hS.mono HB7.out.size));go_simp⟩) hH ?_
  refine rD [1] ?_
  refine AllReadyH.cons rfl (fun K hK=>?_) AllReadyH.nil
  go_simp
  go_at_call 9
  refine (HC1.out _ (HB7.out.trans (hH.mono HB7.out.size))).mono ?_
  rintro e WQ8 ⟨rfl,hb⟩
  have hH8:=hH.trans (hb.mono hH.size)
  clear hb
  go_wp2_with fail
  refine kK hK hH8 (fun hH=>?_)
  clear hK K
  refine rD [3] ?_
  refine AllReadyH.cons rfl (fun K hK=>?_) AllReadyH.nil
  go_simp
  go_at_call 14
  refine (HC2.out _ (HB7.out.trans (hH.mono HB7.out.size))).mono ?_
  rintro e WQ9 ⟨rfl,hb⟩
  have hH9:=hH.trans (hb.mono hH.size)
  clear hb
  go_wp2_with fail
  refine kK hK hH9 (fun hH=>?_)
  clear hK K
  refine tK (i:=4) (oi:=⟨some 46,.binOp .neq 3 (.tmp 43) (.tmp 45) 3,4,"law.go:99",#[⟨1,.data⟩,⟨3,.data⟩],none⟩) (v:=.bool false) (Or.inl ⟨by rfl,fun W hS=>by go_simp⟩) hH ?_
  refine tK (i:=5) (oi:=⟨some 47,.move (.tmp 46),4,"law.go:99",#[⟨4,.data⟩,⟨3,.chain⟩],none⟩) (v:=.bool false) (Or.inl ⟨by rfl,fun W hS=>by go_simp⟩) hH ?_
  refine tK (i:=6) (oi:=⟨some 48,.move (.tmp 8),22,"law.go:99",#[⟨5,.guard⟩],some (5,false)⟩) (v:=.int .i64 q) (Or.inl ⟨by rfl,fun W hS=>by go_simp⟩) hH ?_
  refine tK (i:=7) (oi:=⟨some 49,.move (.tmp 10),3,"law.go:99",#[⟨5,.guard⟩],some (5,false)⟩) (v:=.int .i64 q) (Or.inl ⟨by rfl,fun W hS=>by go_simp⟩) hH ?_
  refine tK (i:=8) (oi:=⟨some 50,.binOp .neq 3 (.tmp 48) (.tmp 49) 3,4,"law.go:99",#[⟨6,.data⟩,⟨7,.data⟩,⟨5,.guard⟩],some (5,false)⟩) (v:=.bool false) (Or.inl ⟨by rfl,fun W hS=>by go_simp⟩) hH ?_
  refine tK (i:=9) (oi:=⟨some 51,.pick (.tmp 47) (.const (.bool true)) (.tmp 50),4,"law.go:99",#[⟨5,.data⟩,⟨8,.data⟩],none⟩) (v:=.bool false) (Or.inl ⟨by rfl,fun W hS=>by go_simp⟩) hH ?_
  refine tK (i:=10) (oi:=⟨some 52,.move (.tmp 51),4,"law.go:99",#[⟨9,.data⟩,⟨5,.chain⟩],none⟩) (v:=.bool false) (Or.inl ⟨by rfl,fun W hS=>by go_simp⟩) hH ?_
  refine tK (i:=11) (oi:=⟨some 53,.move (.tmp 11),4,"law.go:99",#[⟨10,.guard⟩],some (10,false)⟩) (v:=.bool ra1) (Or.inl ⟨by rfl,fun W hS=>by go_simp⟩) hH ?_
  refine tK (i:=12) (oi:=⟨some 54,.move (.tmp 13),4,"law.go:99",#[⟨10,.guard⟩],some (10,false)⟩) (v:=.bool ra1) (Or.inl ⟨by rfl,fun W hS=>by go_simp⟩) hH ?_
  refine tK (i:=13) (oi:=⟨some 55,.binOp .neq 4 (.tmp 53) (.tmp 54) 4,4,"law.go:99",#[⟨11,.data⟩,⟨12,.data⟩,⟨10,.guard⟩],some (10,false)⟩) (v:=.bool false) (Or.inl ⟨by rfl,fun W hS=>by go_simp⟩) hH ?_
  refine tK (i:=14) (oi:=⟨some 56,.pick (.tmp 52) (.const (.bool true)) (.tmp 55),4,"law.go:99",#[⟨10,.data⟩,⟨13,.data⟩],none⟩) (v:=.bool false) (Or.inl ⟨by rfl,fun W hS=>by go_simp⟩) hH ?_
  refine tK (i:=15) (oi:=⟨some 57,.move (.tmp 56),4,"law.go:99",#[⟨14,.data⟩,⟨10,.chain⟩],none⟩) (v:=.bool false) (Or.inl ⟨by rfl,fun W hS=>by go_simp⟩) hH ?_
  refine tK (i:=16) (oi:=⟨some 58,.move (.tmp 12),22,"law.go:99",#[⟨15,.guard⟩],some (15,false)⟩) (v:=.int .i64 ra2) (Or.inl ⟨by rfl,fun W hS=>by go_simp⟩) hH ?_
  refine tK (i:=17) (oi:=⟨some 59,.move (.tmp 14),3,"law.go:99",#[⟨15,.guard⟩],some (15,false)⟩) (v:=.int .i64 ra2) (Or.inl ⟨by rfl,fun W hS=>by go_simp⟩) hH ?_
  refine tK (i:=18) (oi:=⟨some 60,.binOp .neq 3 (.tmp 58) (.tmp 59) 3,4,"law.go:99",#[⟨16,.data⟩,⟨17,.data⟩,⟨15,.guard⟩],some (15,false)⟩) (v:=.bool false) (Or.inl ⟨by rfl,fun W hS=>by go_simp⟩) hH ?_
  refine tK (i:=19) (oi:=⟨some 61,.pick (.tmp 57) (.const (.bool true)) (.tmp 60),4,"law.go:99",#[⟨15,.data⟩,⟨18,.data⟩],none⟩) (v:=.bool false) (Or.inl ⟨by rfl,fun W hS=>by go_simp⟩) hH ?_
  refine tK (i:=20) (oi:=⟨some 62,.move (.tmp 61),4,"law.go:99",#[⟨19,.data⟩,⟨15,.chain⟩],none⟩) (v:=.bool false) (Or.inl ⟨by rfl,fun W hS=>by go_simp⟩) hH ?_
  refine tK (i:=21) (oi:=⟨some 63,.move (.tmp 7),42,"law.go:99",#[⟨20,.guard⟩],some (20,false)⟩) (v:=.slice oa N oc) (Or.inl ⟨by rfl,fun W hS=>by go_simp⟩) hH ?_
  refine tK (i:=22) (oi:=⟨some 64,.call { callee:=.builtin .len,args:=#[.tmp 63],argTypes:=#[42] },3,"law.go:99",#[⟨21,.data⟩,⟨20,.guard⟩],some (20,false)⟩) (v:=.int .i64 (N:Int)) (Or.inl ⟨by rfl,fun W hS=>by go_simp⟩) hH ?_
  refine tK (i:=23) (oi:=⟨some 65,.move (.tmp 9),42,"law.go:99",#[⟨20,.guard⟩],some (20,false)⟩) (v:=.slice ea N ec) (Or.inl ⟨by rfl,fun W hS=>by go_simp⟩) hH ?_
  refine tK (i:=24) (oi:=⟨some 66,.call { callee:=.builtin .len,args:=#[.tmp 65],argTypes:=#[42] },3,"law.go:99",#[⟨23,.data⟩,⟨20,.guard⟩],some (20,false)⟩) (v:=.int .i64 (N:Int)) (Or.inl ⟨by rfl,fun W hS=>by go_simp⟩) hH ?_
  refine tK (i:=25) (oi:=⟨some 67,.binOp .neq 3 (.tmp 64) (.tmp 66) 3,4,"law.go:99",#[⟨22,.data⟩,⟨24,.data⟩,⟨20,.guard⟩],some (20,false)⟩) (v:=.bool false) (Or.inl ⟨by rfl,fun W hS=>by go_simp⟩) hH ?_
  refine tK (i:=26) (oi:=⟨some 68,.pick (.tmp 62) (.const (.bool true)) (.tmp 67),4,"law.go:99",#[⟨20,.data⟩,⟨25,.data⟩],none⟩) (v:=.bool false) (Or.inl ⟨by rfl,fun W hS=>by go_simp⟩) hH ?_
  refine wpAnyH_done (by kernel_rfl) ?_ _
  have HH:=hid hH
  go_wp2_with fail
  go_loopw [15] (fun i wr=>∃m:Nat,m<=N/\i=.int .i64 (m:Int)/\Hid (Below w7.heap.size w7 wr)) (fun i _=>N-(intOf i).toNat)
  case atStart=>exact ⟨0,Nat.zero_le _,rfl,hH⟩
  obtain ⟨m,hml,rfl,HBW⟩:=hrel
  obtain ⟨wo,rfl⟩:∃wo,wo=wr:=⟨_,rfl⟩
  by_cases hlt:m<N
  ·have i1:(m:Int)<(N:Int):=by omega
   have i2:(0:Int)<=(m:Int):=by omega
   have HML:=hid hlt
   have hmn:m<(ordA md).length:=by rw [HN.out];exact hlt
   obtain ⟨rfl,rfl⟩:=HF1.out (by omega)
   obtain ⟨a0,a1,a2,ha⟩:∃a0 a1 a2,(ordA md)[m]'hmn=(a0,a1,a2):=⟨_,_,_,rfl⟩
   obtain ⟨⟨c0,c1,c2⟩,d0,d1,d2⟩:=HF2.out wo HBW.out m hmn a0 a1 a2 ha
   have k3:IntKind.i64.wrap ((m:Int)+1)=(m:Int)+1:=wrap_i64 (by omega) (by omega)
   have eqN:=ne_pl a0 a1 a2
   clear ha hmn
   go_upto_region 12 with fail
   go_quiet (fail)
   go_wp2_with fail
   go_roundw
   case rel=>exact ⟨m+1,by have:=HML.out;omega,by go_num,by first | exact HBW.out | exact HBW.out.drew | exact rochk_drewN HBW.out _⟩
   case measure=>simp only [intOf];have:=HML.out;omega
  obtain rfl:N=m:=by omega
  have i1:¬(N:Int)<(N:Int):=by omega
  have HE:=hid (HB1.out.trans ((HB7.out.trans (HBW.out.mono HB7.out.size)).mono HB1.out.size))
  go_wp2_with fail
  go_ret
  exact ⟨rfl,HE.out⟩
end Go.Proofs.YtfbbkmdhnkmonaaGreatDoor
