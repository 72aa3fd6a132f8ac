/- Proved, each under the conditions that it names: Maps keyed by texts that a call makes itself, their entries written out in the order in which they came; package guard: made, asked, deep; slices.Contains, slices.ContainsFunc at texts. -/
import Derived.Test.YtfbbkmdhnkmonaaGreatDoorT08
import Derived.DeepKeys4
set_option maxRecDepth 100000
set_option maxHeartbeats 32000000
namespace Go.Proofs.YtfbbkmdhnkmonaaGreatDoor
open Go.RowKit
theorem made_walk:∀d,MadeIH d
 | 0=>fun g _ _ h _ _ _=>by rw [g.deep_eq] at h;omega
 | d+1=>fun g cs w hd hr hz h=>by
  have ih:=made_walk d
  obtain ⟨k,n,s,_,_,_,_,heg,-⟩:=h.kid
  have hC:∀ {C:Nat->Prop},C k->∀k' n' s' l',g=.node k' n' s' l'->C k':=fun hc k' n' s' l' e=>by
   rw [heg] at e
   simp only [GD.node.injEq] at e
   exact e.1▸hc
  have:k=0\/k=1\/k=2\/k=3\/k=4\/k=5\/k=6\/k=7\/k=8\/(9<=k/\k<=15)\/15<k:=by omega
  rcases this with h0 | h0 | h0 | h0 | h0 | h0 | h0 | h0 | h0 | h0 | h0
  ·exact made_cother ih g cs w hd hr hz h (hC (C:=fun k=>k=0\/15<k) (.inl h0))
  ·exact made_c1 ih g cs w hd hr hz h (hC (C:=fun k=>k=1) h0)
  ·exact made_c2 ih g cs w hd hr hz h (hC (C:=fun k=>k=2) h0)
  ·exact made_c3 ih g cs w hd hr hz h (hC (C:=fun k=>k=3) h0)
  ·exact made_c4 ih g cs w hd hr hz h (hC (C:=fun k=>k=4) h0)
  ·exact made_c5 ih g cs w hd hr hz h (hC (C:=fun k=>k=5) h0)
  ·exact made_c6 ih g cs w hd hr hz h (hC (C:=fun k=>k=6) h0)
  ·exact made_c7 ih g cs w hd hr hz h (hC (C:=fun k=>k=7) h0)
  ·exact made_c8 ih g cs w hd hr hz h (hC (C:=fun k=>k=8) h0)
  ·exact made_cpair ih g cs w hd hr hz h (hC (C:=fun k=>9<=k/\k<=15) h0)
  exact made_cother ih g cs w hd hr hz h (hC (C:=fun k=>k=0\/15<k) (.inr h0))
theorem deepD_walk:∀(d:Nat) (g:GD) (cs:List Value) (w:World),g.deep<=d->d<=1000000->GIn w g cs ->
  Calls Tryz.prog 81 #[.agg cs.toArray] w fun e w'=>e=.returned (.int .i64 (g.deep:Int))/\Below w.heap.size w w'
 | 0,g,_,_,h,_,_=>by rw [g.deep_eq] at h;omega
 | d+1,g,cs,w,hd,hmax,h=>by
  have HIH:=hid (fun (g:GD) (cs:List Value) (w:World) (h1:g.deep<=d) (h2:GIn w g cs)=>deepD_walk d g cs w h1 (by omega) h2)
  obtain ⟨k,n,sx,a,c,b,off,-,rfl,hl,-,hb,hk⟩:=h.kid
  have HK:=hid hk
  have hde:=g.deep_eq
  have HALL:=hid (fun m (h:g.kids.length<=m)=>(show GD.deeps (g.kids.take m)+1=g.deep by rw [List.take_of_length_le h,hde]))
  have HSUC:=hid (fun m (h:m<g.kids.length)=>deeps_take_succ (l:=g.kids) h)
  have HLT:=hid (fun m=>(show GD.deeps (g.kids.take m)<g.deep by have:=deeps_take_le g.kids m;omega))
  have HKD:=hid (fun m (h:m<g.kids.length)=>(show g.kids[m].deep<g.deep by have:=deeps_mem (List.getElem_mem h);omega))
  have h00:GD.deeps (g.kids.take 0)=0:=rfl
  obtain ⟨l,hl'⟩:∃l,g.kids.length=l:=⟨_,rfl⟩
  rw [hl'] at hb hl ⊢
  have HL:=hid hl'
  unfold maxLen at hl
  clear hk hl' h hde
  go_enter Tryz.func81,Tryz.ntmps81
  go_wp2_with fail
  go_loopw [3,9] (fun n i wr=>∃m:Nat,m<=l/\n=.int .i64 (GD.deeps (g.kids.take m):Int)/\i=.int .i64 (m:Int)/\Hid (Below w.heap.size w wr)) (fun _ i _=>l-(intOf i).toNat)
  case atStart=>exact ⟨0,Nat.zero_le _,by rw [h00];rfl,rfl,(Below.refl _ _).alloc (Nat.le_refl _) _⟩
  obtain ⟨m,hm,rfl,rfl,HB⟩:=hrel
  by_cases hml:m<l
  ·obtain ⟨rfl,hbl⟩:=hb (by omega)
   have i1:(m:Int)<(l:Int):=by omega
   have i2:(0:Int)<=(m:Int):=by omega
   have hmk:m<g.kids.length:=by rw [HL.out];exact hml
   obtain ⟨c0,c1,c2,c3,y0,y1,y2,y3,hgi⟩:=HK.out m hmk
   replace y0:=(HB.out.cell (p:=⟨b,off+m*4,none⟩) hbl).trans y0
   replace y1:=(HB.out.cell (p:=⟨b,off+m*4+1,none⟩) hbl).trans y1
   replace y2:=(HB.out.cell (p:=⟨b,off+m*4+2,none⟩) hbl).trans y2
   replace y3:=(HB.out.cell (p:=⟨b,off+m*4+3,none⟩) hbl).trans y3
   obtain ⟨k2,n2,s2,a2,l2,cc2,he⟩:=hgi.four
   simp only [List.cons.injEq,and_true] at he
   obtain ⟨rfl,rfl,rfl,rfl⟩:=he
   have hkd:=HKD.out m hmk
   have hIH:=HIH.out g.kids[m] _ (wr.alloc (.cells #[.int .u8 k2,.int .i64 n2,.string s2,.slice a2 l2 cc2] 80)) (by omega) (hgi.keepB (HB.out.alloc HB.out.size _))
   have hsu:=HSUC.out m hmk
   obtain ⟨q,hq⟩:∃q,g.kids[m].deep=q:=⟨_,rfl⟩
   rw [hq] at hIH hsu hkd
   have HIH2:=hid hIH
   have HSU:=hid hsu
   have hlt1:=HLT.out m
   have wr1:IntKind.i64.wrap ((m:Int)+1)=(m:Int)+1:=wrap_i64 (by omega) (by omega)
   clear hIH hsu hgi
   go_wp2_with fail
   refine HIH2.out.mono ?_
   rintro e w2 ⟨rfl,hb2⟩
   have HB2:=hid hb2
   clear hb2 HIH2
   go_wp2_with fail
   refine ⟨⟨m+1,by omega,?_,rfl,?_⟩,by simp only [intOf];omega⟩
   ·rw [HSU.out]
    simp only [Value.int.injEq,true_and]
    omega
   exact (HB.out.alloc HB.out.size _).trans (HB2.out.mono (by rw [size_alloc];have:=HB.out.size;omega))
  have hfin:=HALL.out m (by rw [HL.out];omega)
  have i1:¬(m:Int)<(l:Int):=by omega
  have wr1:IntKind.i64.wrap ((GD.deeps (g.kids.take m):Int)+1)=(g.deep:Int):=by rw [wrap_i64 (by omega) (by omega),<-hfin];rfl
  clear hb hfin
  go_wp2_with fail
  go_ret
  exact ⟨rfl,HB.out⟩
def AskedEnd (g:GD) (w:World) (e:Ending) (w':World):Prop:=Below w.heap.size w w' /\
 (
  (¬(∃t:GT,g=t.toGD/\t.may)/\e=.returned (.tuple #[.nilIface,.int .i64 8])) \/
  ∃t:GT,g=t.toGD/\t.may/\((32<t.deep/\e=.returned (.tuple #[.nilIface,.int .i64 161]))\/(t.deep<=32/\∃v,NodeV t v/\e=.returned (.tuple #[v,.int .i64 0]))))
theorem asked_walk (g:GD) (cs:List Value) (w:World) (hd:g.deep<=1000000) (hr:g.inR) (hz:g.size<=1000000) (h:GIn w g cs):Calls Tryz.prog 82 #[.agg cs.toArray] w (AskedEnd g w):=by
 obtain ⟨k,n,sx,a,l,c,rfl⟩:=h.four
 obtain ⟨w1,hw1⟩:∃w1,w.alloc (.cells #[.int .u8 k,.int .i64 n,.string sx,.slice a l c] 80)=w1:=⟨_,rfl⟩
 have hb1:Below w.heap.size w w1:=hw1▸(Below.refl _ _).alloc (Nat.le_refl _) _
 have hx1:Arr w1 w.heap.size 80 [.int .u8 k,.int .i64 n,.string sx,.slice a l c]:=hw1▸Arr.new w [.int .u8 k,.int .i64 n,.string sx,.slice a l c] _
 have HM:=hid (made_walk 1000000 g _ w1 hd hr hz (h.keepB hb1))
 have HD:=hid (fun W (hb:Below w.heap.size w W)=>deepD_walk 1000000 g _ W hd (by omega) (h.keepB hb))
 have HB1:=hid hb1
 have HX1:=hid hx1
 have HW1:=hid hw1
 obtain ⟨z0,z1,z2,z3⟩:=box4 hx1 (Below.refl _ _)
 clear h hb1 hx1 hw1
 go_enter Tryz.func82,Tryz.ntmps82
 go_upto_region 1 with fail
 rw [HW1.out]
 go_wp2_with fail
 refine HM.out.mono ?_
 rintro e w2 ⟨hb2,v,b,rfl,hr1,hr2⟩
 have HB2:=hid (HB1.out.trans (hb2.mono HB1.out.size))
 clear z0 z1 z2 z3
 obtain ⟨z0,z1,z2,z3⟩:=box4 HX1.out hb2
 clear hb2 HM
 cases b with
 | false =>
  have HNO:Hid (¬∃t:GT,g=t.toGD/\t.may):=fun h=>absurd (hr2 h) (by decide)
  clear hr1 hr2
  go_wp2_with fail
  go_ret2
  exact ⟨HB2.out,.inl ⟨HNO.out,rfl⟩⟩
 | true =>
  obtain ⟨t,ht,hmay,hv⟩:=hr1 rfl
  obtain ⟨vT,vp,rfl⟩:=hv.iface
  have hgd:g.deep=t.deep:=by rw [ht,toGD_deep]
  have HDD:=hid (HD.out w2 HB2.out)
  rw [hgd] at HDD
  have HT:=hid ht
  have HMAY:=hid hmay
  have HV:=hid hv
  clear hr1 hr2 ht hmay hv HD hd hgd hr hz
  go_wp2_with fail
  refine HDD.out.mono ?_
  rintro e w3 ⟨rfl,hb3⟩
  have HB3:=hid (HB2.out.trans (hb3.mono HB2.out.size))
  clear hb3 HDD z0 z1 z2 z3
  by_cases h32:32<t.deep
  ·have i1:(32:Int)<(t.deep:Int):=by omega
   have H32:=hid h32
   clear h32
   go_wp2_with fail
   go_ret2
   exact ⟨HB3.out,.inr ⟨t,HT.out,HMAY.out,.inl ⟨H32.out,rfl⟩⟩⟩
  have i1:¬(32:Int)<(t.deep:Int):=by omega
  have H32:=hid h32
  clear h32
  go_wp2_with fail
  go_ret2
  exact ⟨HB3.out,.inr ⟨t,HT.out,HMAY.out,.inr ⟨Nat.not_lt.1 H32.out,_,HV.out,rfl⟩⟩⟩
theorem may_inR:∀t:GT,t.may->t.toGD.inR
 | .leaf k n s,hm=>by
  simp only [GT.toGD,GD.inR,GD.inRs,and_true]
  rcases hm with ⟨_,h,_⟩ | ⟨_,h,h2,_⟩ | ⟨_,h,_⟩ | ⟨_,h,_⟩<;>omega
 | .one k a,hm=>by
  simp only [GT.toGD,GD.inR,GD.inRs,and_true]
  exact ⟨by omega,may_inR a hm.2⟩
 | .two k a b,hm=>by
  simp only [GT.toGD,GD.inR,GD.inRs,and_true]
  exact ⟨by omega,may_inR a hm.2.1,may_inR b hm.2.2⟩
theorem asked_may {t:GT} {cs:List Value} {w:World} (hm:t.may) (hd:t.deep<=32) (hs:t.toGD.size<=60000) (h:GIn w t.toGD cs) :
  Calls Tryz.prog 82 #[.agg cs.toArray] w fun e w'=>(∃u,NodeV t u/\e=.returned (.tuple #[u,.int .i64 0]))/\Below w.heap.size w w':=by
 refine (asked_walk t.toGD cs w (by rw [toGD_deep];omega) (may_inR t hm) (by omega) h).mono ?_
 rintro e w' ⟨hb,hno | ⟨t',ht,hm',⟨h32,-⟩ | ⟨-,u,hu,rfl⟩⟩⟩
 ·exact absurd ⟨t,rfl,hm⟩ hno.1
 ·have:=congrArg GD.deep ht
  rw [toGD_deep,toGD_deep] at this
  omega
 obtain rfl:=toGD_inj ht
 exact ⟨⟨u,hu,rfl⟩,hb⟩
theorem Kind_walk (md:ModelD) (v:ModelV) (t:GT) (cs:List Value) (w:World) (hz:md.Sml) (hm:t.may) (hd:t.deep<=32) (hs:t.toGD.size<=60000) (h:GIn w t.toGD cs) (hM:ModelM false (From 0) w md v) :
  Calls Tryz.prog 122 #[.agg cs.toArray,.agg (v.cs md).toArray] w (fun e w'=>e=tup2 (judg md t)/\Below w.heap.size w w'):=by
 obtain ⟨n,a,l,c,rfl⟩:=gin_kt h
 obtain ⟨w0,hw0⟩:∃w0,w.alloc (.cells #[.int .u8 t.kd,.int .i64 n,.string t.tx,.slice a l c] 80)=w0:=⟨_,rfl⟩
 obtain ⟨w1,hw1⟩:∃w1,w0.alloc (.cells (v.cs md).toArray 31)=w1:=⟨_,rfl⟩
 have hz0:w0.heap.size=w.heap.size+1:=by rw [<-hw0,size_alloc]
 have hb0:Below w.heap.size w w0:=hw0▸(Below.refl _ _).alloc (Nat.le_refl _) _
 have hb01:Below w0.heap.size w0 w1:=hw1▸(Below.refl _ _).alloc (Nat.le_refl _) _
 have hb1:Below w.heap.size w w1:=hb0.trans (hb01.mono hb0.size)
 have hL:Arr w1 w.heap.size 80 [.int .u8 t.kd,.int .i64 n,.string t.tx,.slice a l c]:=hw1▸(show Arr w0 _ _ _ from hw0▸Arr.new w _ _).alloc _
 have hX:Arr w1 (w.heap.size+1) 31 (v.cs md):=by
  have:=Arr.new w0 (v.cs md) 31
  rw [hz0] at this
  exact hw1▸this
 have HW:Hid ((w.alloc (.cells #[.int .u8 t.kd,.int .i64 n,.string t.tx,.slice a l c] 80)).alloc (.cells (v.cs md).toArray 31)=w1):=by
  show _=_
  rw [hw0];exact hw1
 have HA:=hid (asked_may hm hd hs (h.keepB hb1))
 have HJ:=hid (fun u W (hu:NodeV t u) (hb:Below w.heap.size w W)=>judged_walk md v hz t u W hm hu (hM.grow hb))
 have HX:=hid hX
 have HB1:=hid hb1
 obtain ⟨z0,z1,z2,z3⟩:=box4 hL (Below.refl _ _)
 obtain ⟨r,hr⟩:∃r,judg md t=r:=⟨_,rfl⟩
 rw [hr] at HJ ⊢
 clear h hM hz hm hd hs hb0 hb01 hb1 hL hX hw0 hw1 hr
 go_enter Tryz.func122,Tryz.ntmps122
 go_upto_region 1 with fail
 rw [HW.out]
 go_wp2_with fail
 refine HA.out.mono ?_
 rintro e w2 ⟨⟨u,hu,rfl⟩,hb2⟩
 have HB2:=hid (HB1.out.trans (hb2.mono HB1.out.size))
 obtain ⟨y0,y1,y2,y3,y4,y5⟩:=box6 HX.out hb2
 obtain ⟨T,p,rfl⟩:=hu.iface
 have HJ2:=hid (HJ.out _ w2 hu HB2.out)
 clear hb2 hu HA HJ z0 z1 z2 z3
 go_wp2_with fail
 refine HJ2.out.mono ?_
 rintro e w3 ⟨rfl,hb3⟩
 have HB3:=hid (HB2.out.trans (hb3.mono HB2.out.size))
 clear hb3 HJ2
 go_wp2_with fail
 go_ret2
 exact ⟨rfl,HB3.out⟩
theorem truthB_some {md:ModelD} {s:ByteArray} {t:GT} (h0:s.size≠0) (h:readOf s=some t):truthB md s=decide (judg md t=(1,0)):=by
 unfold truthB;rw [if_neg h0,h]
theorem truthB_none {md:ModelD} {s:ByteArray} (h0:s.size≠0) (h:readOf s=none):truthB md s=false:=by
 unfold truthB;rw [if_neg h0,h]
theorem size_zero {s:ByteArray}:s.size=0↔s=⟨#[]⟩:=by
 constructor
 ·intro h
  have:s.data.toList=[]:=List.eq_nil_of_length_eq_zero (by rw [ba_len];exact h)
  exact ByteArray.ext (Array.ext' this)
 rintro rfl;rfl
theorem truth_walk (md:ModelD) (v:ModelV) (s:ByteArray) (w:World) (hz:md.Sml) (hM:ModelM false (From 0) w md v) (hv:GRng w) :
  Calls Tryz.prog 90 #[.agg (v.cs md).toArray,.string s] w (fun e w'=>e=.returned (.bool (truthB md s))/\Below w.heap.size w w'):=by
 obtain ⟨q,hq⟩:∃q,truthB md s=q:=⟨_,rfl⟩
 rw [hq]
 rcases nz_list (s:=s) with ⟨h1,h2⟩ | ⟨h1,h2⟩
 ·have HQ:Hid (true=q):=by show _=_;rw [<-hq,h1];rfl
  clear hq h1 hM hv
  go_enter Tryz.func90,Tryz.ntmps90
  go_wp2_with fail
  go_ret
  exact ⟨ret_bool HQ.out,(Below.refl _ _).alloc (Nat.le_refl _) _⟩
 have h0:s.size≠0:=fun h=>h1 (size_zero.1 h)
 obtain ⟨w1,hw1⟩:∃w1,w.alloc (.cells (v.cs md).toArray 31)=w1:=⟨_,rfl⟩
 have hb1:Below w.heap.size w w1:=hw1▸(Below.refl _ _).alloc (Nat.le_refl _) _
 have hx1:Arr w1 w.heap.size 31 (v.cs md):=hw1▸Arr.new w (v.cs md) _
 have HR:=hid (Read_walkA s w1 (hv.below hb1))
 have HX:=hid hx1
 have HB1:=hid hb1
 have HW1:=hid hw1
 have HM:=hid hM
 have HQ:=hid hq
 have HZ:=hid h0
 clear hq h1 hM hv hb1 hx1 hw1 h0
 go_enter Tryz.func90,Tryz.ntmps90
 go_upto_region 1 with fail
 rw [HW1.out]
 go_wp2_with fail
 refine HR.out.mono ?_
 intro e w2 hr
 obtain ⟨hb2,g,a,c,cs,rfl,hg,hA⟩:=hr.answer
 rcases hA.told with ⟨t,hro,rfl,rfl⟩ | ⟨hro,rfl,hc⟩
 ·obtain ⟨n,ga,gl,gc,rfl⟩:=gin_kt hg
  have hb3:=(Below.refl w2.heap.size w2).alloc (Nat.le_refl _) (.cells #[.int .u8 t.kd,.int .i64 n,.string t.tx,.slice ga gl gc] 80)
  have hb23:=hb2.trans (hb3.mono hb2.size)
  have HB3:=hid (HB1.out.trans (hb23.mono HB1.out.size))
  obtain ⟨m1,m2,m3⟩:=readOf_may hro
  have HK:=hid (Kind_walk md v t _ _ hz m1 m2 m3 (hg.keepB hb3) (HM.out.grow HB3.out))
  obtain ⟨y0,y1,y2,y3,y4,y5⟩:=box6 HX.out hb23
  obtain ⟨z0,z1,z2,z3⟩:=box4 (Arr.new w2 [.int .u8 t.kd,.int .i64 n,.string t.tx,.slice ga gl gc] 80) (Below.refl _ _)
  obtain ⟨r,hr2⟩:∃r,judg md t=r:=⟨_,rfl⟩
  have HQ2:Hid (q=decide (r=(1,0))):=by
   show _=_
   rw [<-HQ.out,truthB_some HZ.out hro,hr2]
  rw [hr2] at HK
  clear HR hr hA hg hb2 hb3 hb23 hro m1 m2 m3 hr2 hz HQ HM
  go_wp2_with fail
  refine HK.out.mono ?_
  rintro e w4 ⟨rfl,hb4⟩
  have HB4:=hid (HB3.out.trans (hb4.mono HB3.out.size))
  clear hb4 HK y0 y1 y2 y3 y4 y5 z0 z1 z2 z3
  obtain ⟨r1,r2⟩:=r
  by_cases e0:r2=0
  ·subst e0
   have HQ3:Hid ((r1==1)=q):=by
    show _=_
    rw [HQ2.out,Bool.eq_iff_iff];simp
   clear HQ2
   go_wp2_with fail
   go_ret
   exact ⟨ret_bool HQ3.out,HB4.out⟩
  have e1:(r2==0)=false:=by simpa using e0
  have HQ3:Hid (false=q):=by
   show _=_
   rw [HQ2.out];simp [e0]
  clear HQ2 e0
  go_wp2_with fail
  go_ret
  exact ⟨ret_bool HQ3.out,HB4.out⟩
 obtain ⟨ga,gl,gc,rfl⟩:=gin_zero hg
 have HB3:=hid (HB1.out.trans ((hb2.alloc hb2.size (.cells #[.int .u8 (0:Nat),.int .i64 0,.string ⟨#[]⟩,.slice ga gl gc] 80)).mono HB1.out.size))
 have HQ2:Hid (false=q):=by
  show _=_
  rw [<-HQ.out,truthB_none HZ.out hro]
 have e1:(c != 0)=true:=by simpa using hc
 clear HR hr hA hg hb2 hro HQ hc
 go_wp2_with fail
 go_ret
 exact ⟨ret_bool HQ2.out,HB3.out⟩
theorem hasB_mem {l:List ByteArray} {s:ByteArray}:hasB l s=true↔s∈l:=by
 unfold hasB
 rw [List.any_eq_true]
 constructor
 ·rintro ⟨e,he,h⟩
  rw [ba_eq,decide_eq_true_eq] at h
  exact h▸he
 intro h
 exact ⟨s,h,by rw [ba_eq];simp⟩
theorem hasB_containsS (l:List ByteArray) (s:ByteArray):Lib.containsS l s=hasB l s:=by
 rw [Bool.eq_iff_iff,hasB_mem,Lib.containsS_iff]
theorem inStrs (B:Nat) (v:Value) (xs:List ByteArray) (x:ByteArray) (w:World) (hl:xs.length<=9223372036854775807) (h:Strs B w v xs) :
  Calls Tryz.prog 88 #[v,.string x] w fun e w'=>e=.returned (.bool (hasB xs x))/\w'=w:=by
 rw [<-hasB_containsS]
 obtain ⟨a,c,b,o,rfl,hle,ha,hc⟩:=h.cells
 by_cases h0:0<xs.length
 ·obtain ⟨rfl,hb⟩:=ha h0
  refine (Tryz.slices_Contains_string b o xs.length c xs x w (Nat.le_refl _) hl (getD_strs hc)).mono ?_
  rintro e w' ⟨rfl,rfl⟩
  exact ⟨by rw [List.take_length],rfl⟩
 have:xs=[]:=List.eq_nil_of_length_eq_zero (by omega)
 subst this
 refine (Tryz.slices_Contains_string_empty a c x w).mono ?_
 rintro e w' ⟨rfl,rfl⟩
 refine ⟨ret_bool ?_,rfl⟩
 cases hcs:Lib.containsS [] x
 ·rfl
 have:=(Lib.containsS_iff [] x).1 hcs;cases this
def AnyAt (p:ByteArray->Bool) (xs:List ByteArray) (e:Ending):Prop:=∃z:Int,e=.returned (.int .i64 z)/\decide (0<=z)=xs.any p
theorem indexStrs (v:Value) (xs:List ByteArray) (p:ByteArray->Bool) (g:Nat) (lb:Array Value) (eg:∀args w,(callFunc g args).run Tryz.prog w=.ok (.enter g args) w)
  (w:World) (hl:xs.length<=1000000) (hp:∀s∈xs,∀W,Below w.heap.size w W->Calls Tryz.prog g (#[.string s]++lb) W fun e w'=>e=.returned (.bool (p s))/\Below W.heap.size W w') (h:Strs w.heap.size w v xs) :
  Calls Tryz.prog 86 #[v,.func (.func g) #[] lb] w fun e w'=>AnyAt p xs e/\Below w.heap.size w w':=by
 obtain ⟨a,c,b,o,rfl,-,ha,hc⟩:=h.cells
 have HA:=hid ha;have HC:=hid hc;have HP:=hid hp
 clear h ha hc hp
 go_enter Tryz.func86,Tryz.ntmps86
 go_wp2
 go_loopw [8] (fun i wr=>∃k:Nat,k<=xs.length/\i=.int .i64 k/\Hid (Below w.heap.size w wr)/\Hid ((xs.take k).any p=false)) (fun i _=>xs.length-(intOf i).toNat)
 case atStart=>exact ⟨0,by omega,rfl,Below.refl _ _,by simp [Hid]⟩
 obtain ⟨k,hk,rfl,hB,hno⟩:=hrel
 by_cases hlt:k<xs.length
 ·obtain ⟨rfl,hbl⟩:=HA.out (by omega)
  have x0:=(hB.out.cell (p:=⟨b,o+k,none⟩) hbl).trans (HC.out k hlt)
  have HK:=hid (HP.out xs[k] (List.getElem_mem hlt))
  have i1:(k:Int)<(xs.length:Int):=by omega
  have hz:=hB.out.size
  cases hq:p xs[k]
  ·rw [hq] at HK
   have HN:Hid ((xs.take (k+1)).any p=false):=by
    show _=_
    rw [List.take_succ_eq_append_getElem hlt,List.any_append,hno.out];simp [hq]
   obtain ⟨s,hs⟩:∃s,xs[k]=s:=⟨_,rfl⟩
   rw [hs] at x0 HK
   clear hq hno hs
   go_wp2_with fail
   refine (HK.out _ hB.out).mono ?_
   rintro e w2 ⟨rfl,hb2⟩
   have HB2:=hid (hB.out.trans (hb2.mono hz))
   clear hb2
   go_wp2
   go_roundw
   case rel=>exact ⟨k+1,by omega,by go_num,HB2,HN⟩
   case measure=>simp [intOf];omega
  rw [hq] at HK
  have HN:Hid (xs.any p=true):=by
   show _=_
   exact List.any_eq_true.2 ⟨xs[k],List.getElem_mem hlt,hq⟩
  obtain ⟨s,hs⟩:∃s,xs[k]=s:=⟨_,rfl⟩
  rw [hs] at x0 HK
  clear hq hno hs
  go_wp2_with fail
  refine (HK.out _ hB.out).mono ?_
  rintro e w2 ⟨rfl,hb2⟩
  have HB2:=hid (hB.out.trans (hb2.mono hz))
  clear hb2
  go_wp2
  go_ret
  exact ⟨⟨_,rfl,by rw [HN.out];simp⟩,HB2.out⟩
 obtain rfl:k=xs.length:=by omega
 have HN:Hid (xs.any p=false):=by
  have:=hno.out
  rwa [List.take_length] at this
 clear hno
 go_wp2
 go_ret
 exact ⟨⟨_,rfl,by rw [HN.out];rfl⟩,hB.out⟩
theorem hasStrs (v:Value) (xs:List ByteArray) (p:ByteArray->Bool) (g:Nat) (lb:Array Value) (eg:∀args w,(callFunc g args).run Tryz.prog w=.ok (.enter g args) w)
  (w:World) (hl:xs.length<=1000000) (hp:∀s∈xs,∀W,Below w.heap.size w W->Calls Tryz.prog g (#[.string s]++lb) W fun e w'=>e=.returned (.bool (p s))/\Below W.heap.size W w') (h:Strs w.heap.size w v xs) :
  Calls Tryz.prog 39 #[v,.func (.func g) #[] lb] w fun e w'=>e=.returned (.bool (xs.any p))/\Below w.heap.size w w':=by
 have HI:=hid (indexStrs v xs p g lb eg w hl hp h)
 obtain ⟨a,c,b,o,rfl,-,-,-⟩:=h.cells
 clear h hp
 go_enter Tryz.func39,Tryz.ntmps39
 go_wp2_with fail
 refine HI.out.mono ?_
 rintro e w1 ⟨⟨z,rfl,hz⟩,hb⟩
 have HZ:=hid hz;have HB:=hid hb
 clear hz hb HI
 go_wp2
 go_ret
 exact ⟨ret_bool (by rw [<-HZ.out]),HB.out⟩
end Go.Proofs.YtfbbkmdhnkmonaaGreatDoor
namespace Go.Proofs.YtfbbkmdhnkmonaaGreatDoor.KM
open Go.RowKit Go.ChangeMaps
open Go.Maps (Keyed)
open Go.Proofs.YtfbbkmdhnkmonaaGreatDoor (sb_same sb_other)
structure Enc {κ:Type} (P:Program) (K:TypeId) (val:κ->Value) (ok:κ->Prop):Prop where
 law:Keyed P K
 inj:∀a b,val a=val b->a=b
 key:∀k,ok k->∃l,keyOf P K (val k)=some l
section
variable {κ:Type} [DecidableEq κ] {val:κ->Value} {ok:κ->Prop}
abbrev Ents (κ:Type):=List (κ×Value)
def entOf (val:κ->Value) (i:Nat) (x:κ×Value):MapEntry:=⟨val x.1,x.2,i⟩
def entsL (val:κ->Value) (ents:Ents κ):List MapEntry:=ents.mapIdx (entOf val)
def mapObj (val:κ->Value) (ents:Ents κ):Obj:=.map (entsL val ents).toArray ents.length
structure MapIs (val:κ->Value) (ok:κ->Prop) (w:World) (b:Nat) (ents:Ents κ):Prop where
 heap:w.heap[b]? = some (mapObj val ents)
 nodup:(ents.map (·.1)).Nodup
 short:∀x∈ents,ok x.1
def getM:Ents κ->κ->Option Value
 | [],_=>none
 | x :: r,k=>if x.1=k then some x.2 else getM r k
def putM:Ents κ->κ->Value->Ents κ
 | [],k,v=>[(k,v)]
 | x :: r,k,v=>if x.1=k then (k,v) :: r else x :: putM r k v
theorem getM_none {ents:Ents κ} {k:κ}:getM ents k=none↔∀x∈ents,x.1≠k:=by
 induction ents with
 | nil=>simp [getM]
 | cons x r ih =>
  simp only [getM]
  by_cases h:x.1=k
  ·simp [h]
  simp [h,ih]
theorem putM_keys_old {ents:Ents κ} {k:κ} {v u:Value} (h:getM ents k=some u):(putM ents k v).map (·.1)=ents.map (·.1):=by
 induction ents with
 | nil=>simp [getM] at h
 | cons x r ih =>
  simp only [getM] at h
  by_cases hk:x.1=k
  ·simp [putM,hk]
  simp only [hk,if_false] at h
  simp [putM,hk,ih h]
theorem putM_new {ents:Ents κ} {k:κ} {v:Value} (h:getM ents k=none):putM ents k v=ents++[(k,v)]:=by
 induction ents with
 | nil=>rfl
 | cons x r ih =>
  simp only [getM] at h
  by_cases hk:x.1=k
  ·simp [hk] at h
  simp only [hk,if_false] at h
  simp [putM,hk,ih h]
theorem mem_putM {ents:Ents κ} {k:κ} {v:Value} {x:κ×Value} (h:x∈putM ents k v):x∈ents\/x=(k,v):=by
 induction ents with
 | nil=>simpa [putM] using h
 | cons y r ih =>
  simp only [putM] at h
  split at h
  ·rcases List.mem_cons.1 h with h | h
   ·exact .inr h
   exact .inl (by simp [h])
  rcases List.mem_cons.1 h with h | h
  ·exact .inl (by simp [h])
  rcases ih h with h | h
  ·exact .inl (by simp [h])
  exact .inr h
theorem getM_putM (k p:κ) (v:Value):∀ents:Ents κ,getM (putM ents k v) p=if k=p then some v else getM ents p
 | []=>by simp [putM,getM]
 | x :: r=>by
  simp only [putM]
  by_cases h:x.1=k
  ·simp only [h,if_true,getM]
   by_cases hp:k=p<;>simp [hp]
  simp only [h,if_false,getM,getM_putM k p v r]
  by_cases hx:x.1=p
  ·have:¬k=p:=fun e=>h (by rw [hx,e])
   simp [hx,this]
  simp [hx]
theorem getM_mem {ents:Ents κ} {k:κ}:(getM ents k).isSome=true↔k∈ents.map (·.1):=by
 induction ents with
 | nil=>simp [getM]
 | cons x r ih =>
  simp only [getM,List.map_cons,List.mem_cons]
  by_cases h:x.1=k
  ·simp [h]
  simp only [h,if_false,ih]
  constructor
  ·exact .inr
  rintro (e | e)
  ·exact absurd e.symm h
  exact e
theorem getM_at {ents:Ents κ} (hn:(ents.map (·.1)).Nodup) {i:Nat} (hi:i<ents.length):getM ents ents[i].1=some ents[i].2:=by
 induction ents generalizing i with
 | nil=>simp at hi
 | cons x r ih =>
  simp only [List.map_cons,List.nodup_cons] at hn
  cases i with
  | zero=>simp [getM]
  | succ i =>
   simp only [gE1,getM]
   have hi':i<r.length:=by simpa using hi
   have hne:x.1≠r[i].1:=fun e=>hn.1 (by rw [e];exact List.mem_map_of_mem (List.getElem_mem hi'))
   rw [if_neg hne]
   exact ih hn.2 hi'
omit [DecidableEq κ] in
theorem entsL_length (ents:Ents κ):(entsL val ents).length=ents.length:=by simp [entsL]
omit [DecidableEq κ] in
theorem entsL_get (ents:Ents κ) (i:Nat) (h:i<ents.length):(entsL val ents)[i]? = some (entOf val i ents[i]):=by simp [entsL,h]
omit [DecidableEq κ] in
theorem mem_entsL {ents:Ents κ} {e:MapEntry} (h:e∈entsL val ents):∃i,∃hi:i<ents.length,e=entOf val i ents[i]:=by
 obtain ⟨i,hi,rfl⟩:=List.mem_iff_getElem.1 h
 have hi':i<ents.length:=by simpa [entsL] using hi
 exact ⟨i,hi',by simp [entsL]⟩
omit [DecidableEq κ] in
theorem entsL_born (ents:Ents κ):(entsL val ents).map (·.born)=List.range ents.length:=by
 apply List.ext_getElem
 ·simp [entsL]
 intro i h1 h2
 simp [entsL,entOf]
section
variable {P:Program} {T K E:TypeId} {w:World} {b:Nat} {ents:Ents κ}
omit [DecidableEq κ] in
theorem MapIs.lt (h:MapIs val ok w b ents):b<w.heap.size:=(Array.getElem?_eq_some_iff.1 h.heap).1
omit [DecidableEq κ] in
theorem MapIs.kept {w':World} (h:MapIs val ok w b ents) (hh:w'.heap[b]? = w.heap[b]?):MapIs val ok w' b ents:=⟨hh.trans h.heap,h.nodup,h.short⟩
omit [DecidableEq κ] in
theorem MapIs.below {B:Nat} {w':World} (h:MapIs val ok w b ents) (hb:Below B w w') (hB:b<B):MapIs val ok w' b ents:=h.kept (hb.block b hB)
omit [DecidableEq κ] in
theorem MapIs.alloc (h:MapIs val ok w b ents) (o:Obj):MapIs val ok (w.alloc o) b ents:=h.kept (Below.heap_alloc w o b h.lt)
omit [DecidableEq κ] in
theorem MapIs.setCell (h:MapIs val ok w b ents) {a:Addr} (hne:b≠a.block) (u:Value):MapIs val ok (w.setCell a u) b ents:=h.kept (Below.heap_setCell w a u b hne)
omit [DecidableEq κ] in
theorem MapIs.made (w:World):MapIs val ok (w.alloc (.map #[] 0)) w.heap.size []:=⟨(MapKept.heap_alloc w _).1,by simp,by simp⟩
theorem MapIs.find (h:MapIs val ok w b ents) (L:Enc P K val ok) {k:κ} (hk:ok k) (W:World) :
  ((Instr.findKey K (val k) (entsL val ents)).run P W=.ok none W/\getM ents k=none) \/
  ∃i,∃hi:i<ents.length,(Instr.findKey K (val k) (entsL val ents)).run P W=.ok (some (i,ents[i].2)) W/\ents[i].1=k/\getM ents k=some ents[i].2:=by
 obtain ⟨kl,hkl⟩:=L.key k hk
 rcases L.law.find W hkl (entsL val ents) (fun e he=>by
   obtain ⟨i,hi,rfl⟩:=mem_entsL he
   exact L.key _ (h.short _ (List.getElem_mem hi))) with ⟨h1,h2⟩ | ⟨j,e,h1,h2,h3⟩
 ·refine .inl ⟨h1,getM_none.2 fun x hx hxk=>?_⟩
  obtain ⟨i,hi,rfl⟩:=List.mem_iff_getElem.1 hx
  exact h2 _ (List.mem_of_getElem? (entsL_get ents i hi)) (by simp [entOf,hxk])
 right
 have hj:j<ents.length:=by
  rcases Nat.lt_or_ge j ents.length with h | h
  ·exact h
  rw [List.getElem?_eq_none (by rw [entsL_length];exact h)] at h2;cases h2
 rw [entsL_get ents j hj] at h2
 injection h2 with h2
 subst h2
 have hk':ents[j].1=k:=L.inj _ _ (by simpa [entOf] using h3)
 refine ⟨j,hj,h1,hk',?_⟩
 have hn:=h.nodup
 clear h1 h3 h
 induction ents generalizing j with
 | nil=>simp at hj
 | cons x r ih =>
  cases j with
  | zero=>simp at hk';simp [getM,hk']
  | succ j =>
   simp at hk'
   simp only [List.map_cons,List.nodup_cons] at hn
   have hne:x.1≠k:=by
    intro he
    exact hn.1 (by rw [he,<-hk'];exact List.mem_map_of_mem (List.getElem_mem (by simpa using hj)))
   simp only [getM,hne,if_false,gE1]
   exact ih j (by simpa using hj) hk' hn.2
theorem MapIs.lookup (h:MapIs val ok w b ents) (hT:P.underlying T=some (.map K E)) (L:Enc P K val ok) {z:Value} (hz:∀W,(zeroValue E).run P W=.ok z W) {k:κ} (hk:ok k) :
  (Instr.lookup T (.map (some b)) (val k) true).run P w=.ok (.tuple #[(getM ents k).getD z,.bool (getM ents k).isSome]) w:=by
 obtain ⟨kl,hkl⟩:=L.key k hk
 rcases h.find L hk w with ⟨h1,h2⟩ | ⟨i,hi,h1,h2,h3⟩
 ·simp [Instr.lookup,run_underlying hT,MapKept.run_getObj_map h.heap,L.law.check w _ hkl,h1,hz,Result.andThen,h2]
 simp [Instr.lookup,run_underlying hT,MapKept.run_getObj_map h.heap,L.law.check w _ hkl,h1,Result.andThen,h3]
theorem MapIs.get (h:MapIs val ok w b ents) (hT:P.underlying T=some (.map K E)) (L:Enc P K val ok) {z:Value} (hz:∀W,(zeroValue E).run P W=.ok z W) {k:κ} (hk:ok k) :
  (Instr.lookup T (.map (some b)) (val k) false).run P w=.ok ((getM ents k).getD z) w:=by
 obtain ⟨kl,hkl⟩:=L.key k hk
 rcases h.find L hk w with ⟨h1,h2⟩ | ⟨i,hi,h1,h2,h3⟩
 ·simp [Instr.lookup,run_underlying hT,MapKept.run_getObj_map h.heap,L.law.check w _ hkl,h1,hz,Result.andThen,h2]
 simp [Instr.lookup,run_underlying hT,MapKept.run_getObj_map h.heap,L.law.check w _ hkl,h1,Result.andThen,h3]
omit [DecidableEq κ] in
theorem MapIs.len (h:MapIs val ok w b ents) (hT:P.underlying T=some (.map K E)) (ty:TypeId):(Builtin.len_ #[T] ty #[.map (some b)]).run P w=.ok (.int .i64 ents.length) w:=by
 simp [Builtin.len_,run_underlying hT,MapKept.run_getObj_map h.heap,Result.andThen,entsL,goInt]
omit [DecidableEq κ] in
theorem entsL_snoc (ents:Ents κ) (x:κ×Value):entsL val (ents++[x])=entsL val ents++[entOf val ents.length x]:=by simp [entsL,List.mapIdx_append]
theorem entsL_put {ents:Ents κ} {k:κ} {v:Value} {i:Nat} (hi:i<ents.length) (hk:ents[i].1=k) (hn:(ents.map (·.1)).Nodup) :
  (entsL val ents).modify i (fun e=>{ e with key:=val k,val:=v })=entsL val (putM ents k v):=by
 have h1:putM ents k v=ents.set i (k,v):=by
  induction ents generalizing i with
  | nil=>simp at hi
  | cons x r ih =>
   cases i with
   | zero=>simp at hk;simp [putM,hk]
   | succ i =>
    simp at hk
    simp only [List.map_cons,List.nodup_cons] at hn
    have hne:x.1≠k:=by
     intro he
     exact hn.1 (by rw [he,<-hk];exact List.mem_map_of_mem (List.getElem_mem (by simpa using hi)))
    simp only [putM,hne,if_false,List.set_cons_succ]
    rw [ih (by simpa using hi) hk hn.2]
 rw [h1]
 apply List.ext_getElem
 ·simp [entsL]
 intro j h2 h3
 simp only [entsL,List.getElem_modify,List.getElem_mapIdx,List.getElem_set]
 by_cases hj:i=j
 ·subst hj;simp [entOf]
 simp [hj]
theorem MapIs.update (h:MapIs val ok w b ents) (hT:P.underlying T=some (.map K E)) (L:Enc P K val ok) {k:κ} (hk:ok k) (v:Value) :
  ∃w',(Instr.mapUpdate T (.map (some b)) (val k) v).run P w=.ok () w'/\MapIs val ok w' b (putM ents k v)/\w.grownBy w' (some b)/\w'.heap.size=w.heap.size:=by
 obtain ⟨kl,hkl⟩:=L.key k hk
 rcases h.find L hk w with ⟨h1,h2⟩ | ⟨i,hi,h1,h2,h3⟩
 ·have e:(entsL val ents).toArray.push { key:=val k,val:=v,born:=ents.length }=(entsL val (putM ents k v)).toArray:=by
   rw [putM_new h2,entsL_snoc]
   simp [entOf]
  refine ⟨setBlock w b (mapObj val (putM ents k v)),?_,⟨heap_setBlock_same h.heap _,?_,?_⟩,⟨rfl,rfl,rfl,by simp [setBlock],fun i _ hi=>heap_setBlock_other h.heap _ (fun e=>hi (by rw [e]))⟩,by simp [setBlock]⟩
  ·simp [Instr.mapUpdate,run_underlying hT,MapKept.run_getObj_map h.heap,L.law.check w _ hkl,h1,Result.andThen,MapKept.run_setObj_map _ h.heap]
   rw [show mapObj val (putM ents k v)=.map ((entsL val ents).toArray.push { key:=val k,val:=v,born:=ents.length }) (ents.length+1) by rw [e,mapObj,putM_new h2];simp]
   simp [setBlock]
  ·rw [putM_new h2,List.map_append,List.nodup_append]
   refine ⟨h.nodup,by simp,?_⟩
   intro a ha c hc
   simp at hc
   obtain ⟨x,hx,rfl⟩:=List.mem_map.1 ha
   rw [hc]
   exact getM_none.1 h2 x hx
  intro x hx
  rcases mem_putM hx with h' | rfl
  ·exact h.short x h'
  exact hk
 have e:(entsL val ents).toArray.modify i (fun e=>{ e with key:=val k,val:=v })=(entsL val (putM ents k v)).toArray:=by
  rw [<-entsL_put hi h2 h.nodup]
  simp
 have hl:(putM ents k v).length=ents.length:=by
  have:=congrArg List.length (putM_keys_old (v:=v) h3)
  simpa using this
 have hst:=L.law.stays w hkl
 have hkey:((entsL val ents)[i]?.map (·.key)).getD (val k)=val k:=by rw [entsL_get ents i hi];simp [entOf,h2]
 refine ⟨setBlock w b (mapObj val (putM ents k v)),?_,⟨heap_setBlock_same h.heap _,?_,?_⟩,⟨rfl,rfl,rfl,by simp [setBlock],fun i _ hi=>heap_setBlock_other h.heap _ (fun e=>hi (by rw [e]))⟩,by simp [setBlock]⟩
 ·have e2:(entsL val ents).modify i (fun e=>{ e with key:=val k,val:=v })=entsL val (putM ents k v):=entsL_put hi h2 h.nodup
  simp [Instr.mapUpdate,run_underlying hT,MapKept.run_getObj_map h.heap,L.law.check w _ hkl,h1,Result.andThen]
  rw [hkey,hst]
  simp only [e2]
  rw [MapKept.run_setObj_map _ h.heap,mapObj,hl]
  rfl
 ·rw [putM_keys_old h3];exact h.nodup
 intro x hx
 rcases mem_putM hx with h' | rfl
 ·exact h.short x h'
 exact hk
omit [DecidableEq κ] in
theorem MapIs.range (h:MapIs val ok w b ents) (hT:P.underlying T=some (.map K E)):(Instr.range T (.map (some b))).run P w=.ok (.pointer (some ⟨w.heap.size,0,none⟩)) (w.alloc (.mapIter (some b) ents.length #[] ents.length)):=by
 simp [Instr.range,run_underlying hT,MapKept.run_getObj_map h.heap,Result.andThen,newObj,Sem.run]
omit [DecidableEq κ] in
theorem MapIs.next {r:Nat} {seen:List Nat} (h:MapIs val ok w b ents) (hi:IterIs w r b ents.length seen) (ty:TypeId) :
  ((∀i,i<ents.length->i∈seen)/\(Instr.next (.pointer (some ⟨r,0,none⟩)) false ty).run P w=.ok (.tuple #[.bool false]) w) \/
  ∃i,∃hl:i<ents.length,i∉seen/\∃w',(Instr.next (.pointer (some ⟨r,0,none⟩)) false ty).run P w=.ok (.tuple #[.bool true,val ents[i].1,ents[i].2]) w'/\MapIs val ok w' b ents/\IterIs w' r b ents.length (seen++[i]) /\
   w.grownBy w' (some r)/\w'.heap.size=w.heap.size/\(Instr.entry (.pointer (some ⟨r,0,none⟩))).run P w'=.ok (.tuple #[val ents[i].1,ents[i].2]) w':=by
 have hne:r≠b:=by
  rintro rfl
  have:=hi.heap.symm.trans h.heap
  simp [mapObj] at this
 have hleft:∀e,e∈(leftOf (entsL val ents).toArray seen.toArray).toList↔∃i,∃hl:i<ents.length,e=entOf val i ents[i]/\i∉seen:=by
  intro e
  simp only [leftOf,Array.toList_filter,List.mem_filter]
  constructor
  ·rintro ⟨h1,h2⟩
   obtain ⟨i,hl,rfl⟩:=mem_entsL h1
   exact ⟨i,hl,rfl,by simpa [entOf] using h2⟩
  rintro ⟨i,hl,rfl,h2⟩
  exact ⟨List.mem_of_getElem? (entsL_get ents i hl),by simpa [entOf] using h2⟩
 rcases run_next_at (P:=P) w ty r b ents.length ents.length seen.toArray (entsL val ents).toArray ents.length hi.heap h.heap (fun x hx=>by
   obtain ⟨i,hl,rfl⟩:=mem_entsL hx
   exact hl) (Nat.le_refl _) with ⟨h0,hrun⟩ | ⟨e,he,w1,hw1,hrun⟩
 ·refine .inl ⟨fun i hl=>?_,hrun⟩
  rcases Classical.em (i∈seen) with hs | hs
  ·exact hs
  have:=(hleft _).2 ⟨i,hl,rfl,hs⟩
  rw [Array.eq_empty_of_size_eq_zero h0] at this
  simp at this
 obtain ⟨i,hl,rfl,hs⟩:=(hleft e).1 he
 have hr1:w1.heap[r]? = some (.mapIter (some b) ents.length seen.toArray ents.length):=by rcases hw1 with rfl | rfl<;>exact hi.heap
 have hb1:w1.heap[b]? = some (mapObj val ents):=by rcases hw1 with rfl | rfl<;>exact h.heap
 have hg1:w.grownBy w1 (some r):=by rcases hw1 with rfl | rfl<;>exact ⟨rfl,rfl,rfl,Nat.le_refl _,fun _ _ _=>rfl⟩
 have hz1:w1.heap.size=w.heap.size:=by rcases hw1 with rfl | rfl<;>rfl
 have hlt1:r<w1.heap.size:=by rw [hz1];exact hi.lt
 refine .inr ⟨i,hl,hs,_,hrun,⟨(sb_other w1 _ (Ne.symm hne)).trans hb1,h.nodup,h.short⟩,⟨?_,?_,?_⟩,?_,?_,?_⟩
 ·rw [sb_same hlt1]
  simp [entOf]
 ·intro j hj
  rcases List.mem_append.1 hj with hj | hj
  ·exact hi.inB j hj
  simp at hj;omega
 ·rw [List.nodup_append]
  refine ⟨hi.nodup,by simp,fun a ha c hc=>?_⟩
  simp at hc
  rintro rfl
  exact hs (hc▸ha)
 ·exact ⟨hg1.os,hg1.tape,hg1.output,by simp [setBlock,hz1],fun j hj hne'=>(sb_other w1 _ (fun e=>hne' (by rw [e]))).trans (hg1.block j hj hne')⟩
 ·simp [setBlock,hz1]
 exact run_entry_at _ r b ents.length seen.toArray (entsL val ents).toArray ents.length (entOf val i ents[i]) (sb_same hlt1 _) ((sb_other w1 _ (Ne.symm hne)).trans hb1) (List.mem_of_getElem? (entsL_get ents i hl)) (by rw [entsL_born];exact List.nodup_range)
end
end
end Go.Proofs.YtfbbkmdhnkmonaaGreatDoor.KM
namespace Go.Proofs.YtfbbkmdhnkmonaaGreatDoor
open Go.RowKit
def plLt (a b:Pl):Prop:=a.1<b.1\/(a.1=b.1/\(a.2.1<b.2.1\/(a.2.1=b.2.1/\a.2.2<b.2.2)))
instance (a b:Pl):Decidable (plLt a b):=by unfold plLt;infer_instance
theorem plLt_irrefl (a:Pl):¬plLt a a:=by unfold plLt;omega
theorem plLt_trans {a b c:Pl} (h:plLt a b) (h':plLt b c):plLt a c:=by unfold plLt at *;omega
theorem plLt_asymm {a b:Pl} (h:plLt a b):¬plLt b a:=fun h'=>plLt_irrefl a (plLt_trans h h')
theorem plLt_total (a b:Pl):plLt a b\/a=b\/plLt b a:=by
 obtain ⟨a1,a2,a3⟩:=a
 obtain ⟨b1,b2,b3⟩:=b
 simp only [plLt,Prod.mk.injEq]
 omega
theorem senL_range {md:ModelD} {k n:Int} {i:Nat} (h:i<(senL md k n).length):(k=1\/k=2\/k=3\/k=4)/\0<=n/\n.toNat<max md.stages.length md.stones.length:=by
 unfold senL at h
 split at h
 ·simp at h
 rename_i hn
 have key:∀ {α:Type} (l:List α) (f:α->List SentryD),i<((l[n.toNat]?.map f).getD []).length->n.toNat<l.length:=by
  intro α l f h
  rcases Nat.lt_or_ge n.toNat l.length with h1 | h1
  ·exact h1
  rw [List.getElem?_eq_none h1] at h;simp at h
 split at h
 ·have:=key _ _ h;exact ⟨by omega,by omega,by omega⟩
 split at h
 ·have:=key _ _ h;exact ⟨by omega,by omega,by omega⟩
 split at h
 ·have:=key _ _ h;exact ⟨by omega,by omega,by omega⟩
 split at h
 ·have:=key _ _ h;exact ⟨by omega,by omega,by omega⟩
 simp at h
theorem senAt_some {md:ModelD} {p:Pl}:(senAt md p).isSome=true↔0<=p.2.2/\p.2.2.toNat<(senL md p.1 p.2.1).length:=by
 unfold senAt
 split
 ·simp;omega
 rename_i h
 simp only [List.getElem?_eq_some_iff,Option.isSome_iff_exists]
 constructor
 ·rintro ⟨s,h1,-⟩;exact ⟨by omega,h1⟩
 rintro ⟨-,h1⟩;exact ⟨_,h1,rfl⟩
theorem mem_placesL {md:ModelD} {p:Pl}:p∈placesL md↔(senAt md p).isSome=true:=by
 rw [senAt_some]
 obtain ⟨k,n,i⟩:=p
 simp only [placesL,List.mem_flatMap,List.mem_map,List.mem_range,Prod.mk.injEq]
 constructor
 ·rintro ⟨k',hk,n',hn,i',hi,rfl,rfl,rfl⟩
  exact ⟨by simp,by simpa using hi⟩
 rintro ⟨h1,h2⟩
 obtain ⟨h3,h4,h5⟩:=senL_range h2
 refine ⟨k,by simp;omega,n.toNat,h5,i.toNat,?_,rfl,by omega,by omega⟩
 rw [show ((n.toNat:Nat):Int)=n by omega]
 exact h2
theorem pairwise_flatMap' {α β:Type} {R:β->β->Prop} {f:α->List β}:∀ {l:List α},(∀x∈l,(f x).Pairwise R)->l.Pairwise (fun x y=>∀a∈f x,∀b∈f y,R a b)->(l.flatMap f).Pairwise R
 | [],_,_=>by simp
 | x :: l,h1,h2=>by
  obtain ⟨h3,h4⟩:=List.pairwise_cons.1 h2
  rw [List.flatMap_cons,List.pairwise_append]
  refine ⟨h1 x (List.mem_cons_self ..),pairwise_flatMap' (fun y hy=>h1 y (List.mem_cons_of_mem _ hy)) h4,fun a ha b hb=>?_⟩
  obtain ⟨y,hy,hb⟩:=List.mem_flatMap.1 hb
  exact h3 y hy a ha b hb
theorem range_pairwise (n:Nat):(List.range n).Pairwise (fun a b=>a<b):=List.pairwise_lt_range
theorem placesL_sorted (md:ModelD):(placesL md).Pairwise plLt:=by
 refine pairwise_flatMap' (fun k _=>pairwise_flatMap' (fun (n:Nat) _=>?_) ?_) ?_
 ·rw [List.pairwise_map]
  exact (range_pairwise _).imp @fun (a b:Nat) h=>.inr ⟨rfl,.inr ⟨rfl,Int.ofNat_lt.2 h⟩⟩
 ·refine (range_pairwise _).imp @fun (n n':Nat) h a ha b hb=>?_
  obtain ⟨i,-,rfl⟩:=List.mem_map.1 ha
  obtain ⟨i',-,rfl⟩:=List.mem_map.1 hb
  exact .inr ⟨rfl,.inl (Int.ofNat_lt.2 h)⟩
 have h0:([1,2,3,4]:List Int).Pairwise (fun a b=>a<b):=by decide
 refine h0.imp @fun (k k':Int) h a ha b hb=>?_
 obtain ⟨n,-,ha⟩:=List.mem_flatMap.1 ha
 obtain ⟨i,-,rfl⟩:=List.mem_map.1 ha
 obtain ⟨n',-,hb⟩:=List.mem_flatMap.1 hb
 obtain ⟨i',-,rfl⟩:=List.mem_map.1 hb
 exact .inl h
theorem placesL_nodup (md:ModelD):(placesL md).Nodup:=(placesL_sorted md).imp @fun (a b:Pl) h (e:a=b)=>plLt_irrefl a (by rw [<-e] at h;exact h)
theorem sorted_one:∀ {l m:List Pl},l.Perm m->l.Pairwise plLt->m.Pairwise plLt->l=m
 | [],m,hp,_,_=>hp.nil_eq
 | x :: l,[],hp,_,_=>by have:=hp.length_eq;simp at this
 | x :: l,y :: m,hp,hl,hm=>by
  obtain ⟨hl1,hl2⟩:=List.pairwise_cons.1 hl
  obtain ⟨hm1,hm2⟩:=List.pairwise_cons.1 hm
  have e:x=y:=by
   rcases List.mem_cons.1 (hp.symm.subset (List.mem_cons_self ..)) with h | h
   ·exact h.symm
   rcases List.mem_cons.1 (hp.subset (List.mem_cons_self ..)) with h' | h'
   ·exact h'
   exact absurd (hm1 x h') (plLt_asymm (hl1 y h))
  subst e
  rw [sorted_one (List.Perm.cons_inv hp) hl2 hm2]
theorem perm_of_mem {α:Type} [DecidableEq α]:∀ {l m:List α},l.Nodup->m.Nodup->(∀x,x∈l↔x∈m)->l.Perm m
 | [],m,_,_,h=>by
  have:m=[]:=List.eq_nil_iff_forall_not_mem.2 fun x hx=>by simpa using (h x).2 hx
  rw [this]
 | x :: l,m,hl,hm,h=>by
  have hx:x∈m:=(h x).1 (List.mem_cons_self ..)
  refine ((perm_of_mem (l:=l) (m:=m.erase x) (List.nodup_cons.1 hl).2 (hm.erase x) fun y=>?_).cons x).trans (List.perm_cons_erase hx).symm
  rw [hm.mem_erase_iff,<-h y,List.mem_cons]
  constructor
  ·intro hy
   exact ⟨fun e=>(List.nodup_cons.1 hl).1 (e▸hy),.inr hy⟩
  rintro ⟨h1,h2 | h2⟩
  ·exact absurd h2 h1
  exact h2
theorem sorted_places {md:ModelD} {l:List Pl} (hn:l.Nodup) (hm:∀p,p∈l↔(senAt md p).isSome=true) (hs:∀i j (hi:i<l.length) (hj:j<l.length),i<j->¬plLt l[j] l[i]):l=placesL md:=by
 refine sorted_one (perm_of_mem hn (placesL_nodup md) fun p=>by rw [hm,mem_placesL]) ?_ (placesL_sorted md)
 rw [List.pairwise_iff_getElem]
 intro i j hi hj hij
 rcases plLt_total l[i] l[j] with h | h | h
 ·exact h
 ·exact absurd ((List.getElem_inj hn).1 h) (by omega)
 exact absurd h (hs i j hi hj hij)
theorem sum_at {α:Type} (f:α->Nat):∀(l:List α) (N:Nat),l.length<=N->((List.range N).map fun n=>((l[n]?).map f).getD 0).sum=(l.map f).sum
 | [],N,_=>by
  have:∀N,((List.range N).map fun n=>((([]:List α)[n]?).map f).getD 0).sum=0:=by
   intro N
   rw [show ((List.range N).map fun n=>((([]:List α)[n]?).map f).getD 0)=List.replicate N 0 from by
    apply List.ext_getElem (by simp)
    intro i h1 h2
    simp]
   simp
  simpa using this N
 | x :: l,0,h=>by simp at h
 | x :: l,N+1,h=>by
  rw [List.range_succ_eq_map,List.map_cons,List.sum_cons,List.map_map,List.map_cons,List.sum_cons]
  have:=sum_at f l N (by simpa using h)
  simp only [List.getElem?_cons_zero,Option.map_some,Option.getD_some]
  rw [<-this]
  rfl
theorem length_placesL (md:ModelD):(placesL md).length=manyN md:=by
 have hs:∀(k:Int) (n:Nat),(senL md k (n:Int)).length=if k=1 then ((md.stages[n]?).map fun s=>s.opens.length).getD 0 else if k=2 then ((md.stages[n]?).map fun s=>s.closes.length).getD 0 else if k=3 then ((md.stones[n]?).map fun s=>s.done.length).getD 0 else if k=4 then ((md.stones[n]?).map fun s=>s.undo.length).getD 0 else 0:=by
  intro k n
  unfold senL
  rw [if_neg (by omega),Int.toNat_natCast]
  split
  ·cases md.stages[n]?<;>rfl
  split
  ·cases md.stages[n]?<;>rfl
  split
  ·cases md.stones[n]?<;>rfl
  split
  ·cases md.stones[n]?<;>rfl
  rfl
 have hl:∀k:Int,((List.range (max md.stages.length md.stones.length)).flatMap fun (n:Nat)=>(List.range (senL md k (n:Int)).length).map fun (i:Nat)=>((k,(n:Int),(i:Int)):Pl)).length=((List.range (max md.stages.length md.stones.length)).map fun (n:Nat)=>(senL md k (n:Int)).length).sum:=by
  intro k
  rw [List.length_flatMap]
  simp
 have sum_add:∀ {α:Type} (f g:α->Nat) (l:List α),(l.map fun x=>f x+g x).sum=(l.map f).sum+(l.map g).sum:=by
  intro α f g l
  induction l with
  | nil=>rfl
  | cons x l ih=>simp only [List.map_cons,List.sum_cons,ih];omega
 unfold placesL manyN
 rw [List.flatMap_cons,List.flatMap_cons,List.flatMap_cons,List.flatMap_cons,List.flatMap_nil,List.length_append,List.length_append,List.length_append,List.length_append,hl,hl,hl,hl]
 simp only [hs]
 have e1:=sum_at (fun s:StageD=>s.opens.length) md.stages (max md.stages.length md.stones.length) (by omega)
 have e2:=sum_at (fun s:StageD=>s.closes.length) md.stages (max md.stages.length md.stones.length) (by omega)
 have e3:=sum_at (fun s:StoneD=>s.done.length) md.stones (max md.stages.length md.stones.length) (by omega)
 have e4:=sum_at (fun s:StoneD=>s.undo.length) md.stones (max md.stages.length md.stones.length) (by omega)
 rw [sum_add,sum_add]
 simp only [if_true,show ¬(2:Int)=1 by decide,show ¬(3:Int)=1 by decide,show ¬(3:Int)=2 by decide,show ¬(4:Int)=1 by decide,show ¬(4:Int)=2 by decide,show ¬(4:Int)=3 by decide,if_false,e1,e2,e3,e4,List.length_nil]
 omega
theorem orderL_is (md:ModelD):∃rest,OrdIs (leansB md) (placesL md) (orderL md) rest:=ordL_is _ _ _ _ _ (OrdIs.start _ _)
theorem orderL_len (md:ModelD):(orderL md).length<=(placesL md).length:=by
 obtain ⟨rest,h⟩:=orderL_is md
 have:=h.perm.length_eq
 rw [List.length_append] at this
 omega
def plV (p:Pl):Value:=.agg #[.int .i64 p.1,.int .i64 p.2.1,.int .i64 p.2.2]
def plC (p:Pl):List Value:=[.int .i64 p.1,.int .i64 p.2.1,.int .i64 p.2.2]
def okPl (p:Pl):Prop:=(-1000000<=p.1/\p.1<=1000000)/\(-1000000<=p.2.1/\p.2.1<=1000000)/\(-1000000<=p.2.2/\p.2.2<=1000000)
theorem plV_inj (a b:Pl) (h:plV a=plV b):a=b:=by
 obtain ⟨a1,a2,a3⟩:=a
 obtain ⟨b1,b2,b3⟩:=b
 simpa [plV] using h
theorem plKeyed:Maps.Keyed Tryz.prog 33:=Maps.Keyed.of_law (deep_law_laid (m:=9) (by kernel_rfl) (by omega) (of_decide_eq_true (by kernel_rfl)) (by kernel_rfl) (by kernel_rfl))
theorem plEnc:KM.Enc Tryz.prog 33 plV okPl:=⟨plKeyed,plV_inj,fun p hp=>by
 obtain ⟨p1,p2,p3⟩:=p
 obtain ⟨h1,h2,h3⟩:=hp
 simp only at h1 h2 h3
 have w1:(Lit.int .i64 p1).wf=true:=WalkArith.wf_i64 (by omega)
 have w2:(Lit.int .i64 p2).wf=true:=WalkArith.wf_i64 (by omega)
 have w3:(Lit.int .i64 p3).wf=true:=WalkArith.wf_i64 (by omega)
 have hT:Tryz.prog.keyType 33=true:=by kernel_rfl
 have hF:(Value.agg #[.int .i64 p1,.int .i64 p2,.int .i64 p3]).formed Tryz.prog 33=true:=by kernel_rfl
 have hc3:Tryz.prog.cellsOf 33=3:=by kernel_rfl
 have hc1:Tryz.prog.cellsOf 3=1:=by kernel_rfl
 obtain ⟨n,hn⟩:∃n,Tryz.prog.types.size=n+1:=⟨Tryz.prog.types.size-1,by kernel_rfl⟩
 have hL:∀n,Tryz.prog.keyLits (n+1+1) 33 [.int .i64 p1,.int .i64 p2,.int .i64 p3]=some [.int .i64 p1,.int .i64 p2,.int .i64 p3]:=by
  intro n
  simp [Program.keyLits,Tryz.underlying33,Tryz.underlying3,hc3,hc1,w1,w2,w3,List.range,List.range.loop]
 refine ⟨.string (keyBytes [.int .i64 p1,.int .i64 p2,.int .i64 p3]),?_⟩
 unfold keyOf plV
 rw [Tryz.underlying33]
 simp only [hT,hF,hn,Bool.and_self,if_true]
 rw [show (Value.agg #[.int .i64 p1,.int .i64 p2,.int .i64 p3]).cells.toList=[.int .i64 p1,.int .i64 p2,.int .i64 p3] from rfl,hL n]
 rfl⟩
theorem okPl_mk {k n m:Int} (h1:-1000000<=k/\k<=1000000) (h2:-1000000<=n/\n<=1000000) (h3:-1000000<=m/\m<=1000000):okPl (k,n,m):=⟨h1,h2,h3⟩
def senV (s:SentryD):Value:=.agg #[.int .u8 s.on,.string s.name,.string s.cond]
def putsAt (k n:Int) (l:List SentryD) (p:Pl):Option Value:=if p.1=k/\p.2.1=n/\0<=p.2.2 then (l[p.2.2.toNat]?).map senV else none
theorem putsAt_succ (k n:Int) (l:List SentryD) (m:Nat) (h:m<l.length) (p:Pl):putsAt k n (l.take (m+1)) p=if (k,n,(m:Int))=p then some (senV l[m]) else putsAt k n (l.take m) p:=by
 obtain ⟨a,b,c⟩:=p
 simp only [putsAt,Prod.mk.injEq]
 by_cases h1:a=k/\b=n/\0<=c
 ·obtain ⟨rfl,rfl,h3⟩:=h1
  simp only [true_and,h3,if_true]
  rw [List.take_succ_eq_append_getElem h]
  by_cases h2:(m:Int)=c
  ·subst h2
   simp
   exact ⟨_,List.getElem?_eq_getElem h,rfl⟩
  simp only [h2,if_false]
  rcases Nat.lt_or_ge c.toNat m with h4 | h4
  ·rw [List.getElem?_append_left (by simp;omega)]
  rw [List.getElem?_eq_none (by simp;omega),List.getElem?_eq_none (by simp;omega)]
 rw [if_neg h1,if_neg h1,if_neg (by rintro ⟨rfl,rfl,rfl⟩;exact h1 ⟨rfl,rfl,by omega⟩)]
theorem putsAt_nil (k n:Int) (p:Pl):putsAt k n [] p=none:=by simp [putsAt]
theorem grown_cell {w w':World} {M:Nat} (h:w.grownBy w' (some M)) {a:Addr} {v:Value} (hc:w.cell? a=some v) (hm:∃cl es,w.heap[M]? = some (.map es cl)):w'.cell? a=some v:=by
 obtain ⟨cl,es,hm⟩:=hm
 have hlt:=World.block_lt_of_cell? w a hc
 have hne:a.block≠M:=by
  intro e
  unfold World.cell? at hc
  rw [e,hm] at hc
  cases hc
 rw [World.cell?_of_block (h.block a.block hlt (fun e=>hne (Option.some.inj e)))]
 exact hc
theorem KM.MapIs.isMap {κ:Type} {val:κ->Value} {ok:κ->Prop} {w:World} {b:Nat} {ents:KM.Ents κ} (h:KM.MapIs val ok w b ents):∃cl es,w.heap[b]? = some (.map es cl):=⟨_,_,h.heap⟩
def PutEnd (k n:Int) (l:List SentryD) (M:Nat) (ents:KM.Ents Pl) (w:World) (e:Ending) (w':World):Prop :=
 e=.returned (.tuple #[])/\∃ents',KM.MapIs plV okPl w' M ents'/\w.grownBy w' (some M)/\∀p,KM.getM ents' p=(putsAt k n l p).or (KM.getM ents p)
theorem put_walk (k n:Int) (l:List SentryD) (a:Option Addr) (c B M:Nat) (ents:KM.Ents Pl) (w:World) (hk:0<=k/\k<=10) (hn:0<=n/\n<=1000) (hl:l.length<=1000) (hB:w.cell? ⟨B,0,none⟩=some (.map (some M))) (hM:KM.MapIs plV okPl w M ents)
  (h:Mem false (From 0) w (senD l) (.slice a l.length c)):Calls Tryz.prog 29 #[.int .i64 k,.int .i64 n,.slice a l.length c,.pointer (some ⟨B,0,none⟩)] w (PutEnd k n l M ents w):=by
 obtain ⟨_,_,b,off,hv,-,hC⟩:=flat_open h
 injection hv with e1 e2 e3
 subst e1 e3
 have HC:=hid hC
 have HB:=hid hB
 have HI:=hid hM.isMap
 generalize hQ:PutEnd k n l M ents w=Q
 have HQ:=hid hQ
 clear h hC hQ e2 hB
 go_enter Tryz.func29,Tryz.ntmps29
 go_wp2_with fail
 go_loopw [11] (fun i wr=>∃m:Nat,m<=l.length/\i=.int .i64 (m:Int)/\Hid (∃ents',KM.MapIs plV okPl wr M ents'/\∀p,KM.getM ents' p=(putsAt k n (l.take m) p).or (KM.getM ents p))/\Hid (w.grownBy wr (some M))) (fun i _=>l.length-(intOf i).toNat)
 case atStart=>exact ⟨0,Nat.zero_le _,rfl,⟨ents,hM,fun p=>by rw [List.take_zero,putsAt_nil];rfl⟩,World.grownBy.refl _ _⟩
 obtain ⟨m,hml,rfl,HE,HG⟩:=hrel
 by_cases hlt:m<l.length
 ·have i1:(m:Int)<(l.length:Int):=by omega
  have i2:(0:Int)<=(m:Int):=by omega
  have HML:=hid hlt
  obtain ⟨rfl,-,hbl⟩:=HC.out.at0 (by omega)
  have cb:∀i u,(SentryD.cs l[m])[i]? = some u->wr.cell? ⟨b,off+m*3+i,none⟩=some u:=fun i u hi=>grown_cell HG.out (HC.out.cell m hlt i u hi) HI.out
  have c0:wr.cell? ⟨b,off+m*3,none⟩=some (.int .u8 l[m].on):=cb 0 _ rfl
  have c1:wr.cell? ⟨b,off+m*3+1,none⟩=some (.string l[m].name):=cb 1 _ rfl
  have c2:wr.cell? ⟨b,off+m*3+2,none⟩=some (.string l[m].cond):=cb 2 _ rfl
  have cB:wr.cell? ⟨B,0,none⟩=some (.map (some M)):=grown_cell HG.out HB.out HI.out
  obtain ⟨ents1,hM1,hE1⟩:=HE.out
  have hBl:=World.block_lt_of_cell? wr _ cB
  have cB2:(wr.alloc (.cells #[.int .u8 l[m].on,.string l[m].name,.string l[m].cond] 35)).cell? ⟨B,0,none⟩=some (.map (some M)):=Lib.cell?_alloc_some _ cB
  have hok:okPl (k,n,(m:Int)):=okPl_mk (by omega) (by omega) (by omega)
  obtain ⟨w2,hu,hM2,hg2,hz2⟩:=(hM1.alloc (.cells #[.int .u8 l[m].on,.string l[m].name,.string l[m].cond] 35)).update Tryz.underlying51 plEnc hok (senV l[m])
  have wr1:IntKind.i64.wrap ((m:Int)+1)=(m:Int)+1:=wrap_i64 (by omega) (by omega)
  have HG2:Hid (w.grownBy w2 (some M)):=(HG.out.trans (World.grownBy_alloc _ _ _)).trans hg2
  have HM2:Hid (KM.MapIs plV okPl w2 M (KM.putM ents1 (k,n,(m:Int)) (senV l[m]))):=hM2
  have HE1:=hid hE1
  simp only [plV,senV] at hu
  clear hM1 hE1 hM2 hg2 hz2 cb hok
  go_wp2_with fail
  refine ⟨⟨m+1,by omega,by go_num,?_,HG2⟩,by simp only [intOf];have:=HML.out;omega⟩
  refine ⟨_,HM2.out,fun p=>?_⟩
  rw [KM.getM_putM,HE1.out p,putsAt_succ k n l m HML.out p]
  by_cases hp:(k,n,(m:Int))=p
  ·rw [if_pos hp,if_pos hp];rfl
  rw [if_neg hp,if_neg hp]
 obtain rfl:m=l.length:=by omega
 have i1:¬(l.length:Int)<(l.length:Int):=by omega
 obtain ⟨ents1,hM1,hE1⟩:=HE.out
 rw [List.take_length] at hE1
 have HM1:=hid hM1
 have HE1:=hid hE1
 clear hM1 hE1
 go_wp2_with fail
 refine bodyPost_end (v:=.tuple #[]) (by simp [results,Tryz.results29]) rfl ?_
 rw [<-HQ.out]
 exact ⟨rfl,ents1,HM1.out,HG.out,HE1.out⟩
end Go.Proofs.YtfbbkmdhnkmonaaGreatDoor
