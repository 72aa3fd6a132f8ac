/- Proved, each under the conditions that it names: docketref17: sum; docketref17: part. -/
import Derived.Test.YtfbbkmdhnkmonaaGreatDoorT13
set_option maxRecDepth 100000
set_option maxHeartbeats 32000000
namespace Go.Proofs.YtfbbkmdhnkmonaaGreatDoor
open Go.RowKit
theorem rf_sum {R:Nat} {s:ByteArray} {N:Nat} (hs:s.size<=17000) (hsub:SubX R s N 192 .product):SubX R s N 181 .sum:=by
 intro x0 w hN hg h
 have hRw:R<w.heap.size:=h.lt
 have HSUB:=hid hsub
 have HN:=hid hN
 have HG:=hid hg
 have hra:RfIs R (w.alloc (.cells #[.int .u8 0,.int .i64 0,.string ⟨#[]⟩,.slice none 0 0] 80)) s x0:=h.below ((Below.refl _ w).alloc (Nat.le_refl _) _)
 have HRA:=hid hra
 clear h hra hg hN hsub
 go_enter Tryz.func181,Tryz.ntmps181
 go_wp2_with fail
 refine (HSUB.out x0 _ HN.out HG.out HRA.out).mono ?_
 rintro e w2 ⟨hk2,x1,t1,cs,rfl,hx1,hr1,hp1⟩
 have HK2:=hid ((KeepR.of ((Below.refl w.heap.size w).alloc (Nat.le_refl _) (.cells #[.int .u8 0,.int .i64 0,.string ⟨#[]⟩,.slice none 0 0] 80))).trans hk2)
 have hgb1:w.heap.size<w2.heap.size:=by have:=hk2.size;rw [size_alloc] at this;omega
 have HA2:=hid ((Arr.new w [.int .u8 0,.int .i64 0,.string ⟨#[]⟩,.slice none 0 0] 80).keepR hk2 (by omega))
 have HL2:=hid (loop_first (kinds:=kSum) hp1)
 have hX1:GX (fun k=>k<w.heap.size+1\/k=w2.heap.size) w2 t1 cs:=hx1.mono (fun k hk h=>show k<(w.alloc _).heap.size by rw [size_alloc];omega)
 obtain ⟨k1,n1,s1,a1,l1,c1,rfl⟩:=hx1.four
 have HRow:Hid (LoopW R s w w2.heap.size (w2.alloc (.cells #[.int .u8 k1,.int .i64 n1,.string s1,.slice a1 l1 c1] 80)) x1 t1 [.int .u8 k1,.int .i64 n1,.string s1,.slice a1 l1 c1]) :=
  ⟨hr1.below ((Below.refl _ _).alloc (Nat.le_refl _) _),HK2.out.alloc _,HA2.out.alloc _,Arr.new w2 [.int .u8 k1,.int .i64 n1,.string s1,.slice a1 l1 c1] 80,hX1.below ((Below.refl w2.heap.size w2).alloc (Nat.le_refl _) _)⟩
 clear hk2 hX1 hx1 hr1 hp1 HRA HK2 HA2
 go_wp2_with fail
 generalize w2.alloc (.cells #[.int .u8 k1,.int .i64 n1,.string s1,.slice a1 l1 c1] 80)=w3 at *
 generalize w2.heap.size=gb at *
 go_loopw [6,7] (fun _ _ wr=>∃x t cs,Hid (LoopW R s w gb wr x t cs)/\Hid (LoopX s .product kSum x0 x t)) (fun _ _ wr=>remR R s wr)
 case atStart=>exact ⟨x1,t1,_,HRow,HL2⟩
 clear HRow HL2
 obtain ⟨x,t,cs,HW,HL⟩:=hrel
 obtain ⟨q1,m1,z1,b1,l2,c2,rfl⟩:=HW.out.gx.four
 cases x with
 | error a =>
  have hbad:=HW.out.rd
  obtain ⟨i',p',hbad⟩:=hbad
  obtain ⟨-,-,-,-,v4,-⟩:=rf_cells hbad
  clear hbad
  have y0:=HW.out.cell.cell (j:=0) (by simp)
  have y1:=HW.out.cell.cell (j:=1) (by simp)
  have y2:=HW.out.cell.cell (j:=2) (by simp)
  have y3:=HW.out.cell.cell (j:=3) (by simp)
  simp only [gE0,gE1] at y0 y1 y2 y3
  have o0:=HW.out.out.cell (j:=0) (by simp)
  have o1:=HW.out.out.cell (j:=1) (by simp)
  have o2:=HW.out.out.cell (j:=2) (by simp)
  have o3:=HW.out.out.cell (j:=3) (by simp)
  simp only [gE0,gE1] at o0 o1 o2 o3
  have f0:=HW.out.out.frozen 0
  have f1:=HW.out.out.frozen 1
  have f2:=HW.out.out.frozen 2
  have f3:=HW.out.out.frozen 3
  go_wp2_with fail
  obtain ⟨k1,k2,k3,k4⟩:=storeO (d0:=.int .u8 q1) (d1:=.int .i64 m1) (d2:=.string z1) (d3:=.slice b1 l2 c2) HW.out.keep HW.out.rd HW.out.out (GX.mono (fun k _ h=>.inl h) HW.out.gx) hRw
  refine ret_guard (fn:=Tryz.f181) rfl (g:=w.heap.size) (cs:=[.int .u8 q1,.int .i64 m1,.string z1,.slice b1 l2 c2]) rfl rfl rfl k3 ?_
  exact ⟨k1,_,_,_,rfl,k4,k2,loop_end HL.out (fun _ h=>by cases h) (fun fu st0=>by rw [pars])⟩
 | ok st =>
  have hgood:Arr wr R 155 [.string s,.int .i64 (st.i:Int),.int .i64 (st.pos:Int),.string st.now,.bool false,.int .i64 0]:=HW.out.rd
  obtain ⟨-,-,-,-,v4,-⟩:=rf_cells hgood
  have HIS:=hid (rfIsX R s (.ok st) addS wr hs HL.out.gsx.le HW.out.rd)
  obtain ⟨b,hb⟩:∃b,(isX s addS (.ok st)).1=b:=⟨_,rfl⟩
  obtain ⟨x4,hx4⟩:∃x4,(isX s addS (.ok st)).2=x4:=⟨_,rfl⟩
  have hyes:b=true->st.now=addS/\x4=stepB s st.i:=fun h=>by obtain ⟨st',h1,h2,h3⟩:=isX_yes (hb.trans h);cases h1;exact ⟨h2,hx4▸h3⟩
  have hno:b=false->x4=.ok st/\¬st.now=addS:=fun h=>⟨hx4▸(isX_no (hb.trans h)).1,(isX_no (hb.trans h)).2 st rfl⟩
  rw [hb,hx4] at HIS
  clear hb hx4 hgood
  go_wp2_with fail
  clear v4
  refine HIS.out.mono ?_
  rintro e w4 ⟨hk4,rfl,hr4⟩
  have HR4:=hid hr4
  have HC4:=hid (HW.out.cell.keepR hk4 (by omega))
  have HO4:=hid (HW.out.out.keepR hk4 (by omega))
  have HK4:=hid (HW.out.keep.trans hk4)
  have HX4:=hid (GX.keepR (X:=fun k=>k<w.heap.size+1\/k=gb) (Or.inl (by omega)) hk4 HW.out.gx)
  have hgs:=HL.out.gsx st rfl
  have HGS:=hid hgs
  have HG4:=hid (GSX.step hgs)
  have HN4:Hid (∀st',stepB s st.i=.ok st'->s.size-st'.pos<N):=fun st' hst=>by
   have h1:=(step_gs hgs.le hst).2
   have h2:=hgs.pos
   cases x0 with
   | error b=>cases (show Except.ok st=Except.error b from HL.out)
   | ok st0 =>
    obtain ⟨_,_,_,h3,_⟩:=HL.out
    have h4:=HN.out st0 rfl
    omega
  clear hk4 hr4 HIS hgs
  have y0:=HC4.out.cell (j:=0) (by simp)
  have y1:=HC4.out.cell (j:=1) (by simp)
  have y2:=HC4.out.cell (j:=2) (by simp)
  have y3:=HC4.out.cell (j:=3) (by simp)
  simp only [gE0,gE1] at y0 y1 y2 y3
  cases b with
  | true =>
   obtain ⟨hnow,rfl⟩:=hyes rfl
   have HNOW:=hid hnow
   generalize hx4:stepB s st.i=x4 at *
   have HX0:=hid hx4
   clear hx4 hyes hno hnow
   go_wp2_with fail
   refine wp_region_held_drew (S:=fun _=>True) (by kernel_rfl) trivial (fun hH=>?_)
   have HR5:=hid (HR4.out.below (Below.refl w4.heap.size w4).drew)
   have HC5:=hid (Arr.drew HC4.out)
   have HO5:=hid (Arr.drew HO4.out)
   have HK5:=hid (KeepR.drew HK4.out)
   have HX5:=hid (HX4.out.below (Below.refl w4.heap.size w4).drew)
   clear HR4 HC4 HO4 HK4 HX4
   replace y0:=HC5.out.cell (j:=0) (by simp)
   replace y1:=HC5.out.cell (j:=1) (by simp)
   replace y2:=HC5.out.cell (j:=2) (by simp)
   replace y3:=HC5.out.cell (j:=3) (by simp)
   simp only [gE0,gE1] at y0 y1 y2 y3
   generalize w4.drew=Wd at *
   refine tK (i:=1) (oi:=⟨some 14,.move (.tmp 0),153,"ref.go:187",#[],none⟩) (v:=.pointer (some ⟨R,0,none⟩)) (Or.inl ⟨by rfl,fun W hS=>by go_simp⟩) hH ?_
   refine rD [0,2] ?_
   refine AllReadyH.cons rfl (fun K hK=>?_) (AllReadyH.cons rfl (fun K hK=>?_) AllReadyH.nil)
   ·go_simp
    refine kK hK trivial (fun hH=>?_)
    clear hK K
    refine rD [2] ?_
    refine AllReadyH.cons rfl (fun K hK=>?_) AllReadyH.nil
    go_simp
    refine (HSUB.out x4 Wd HN4.out HG4.out HR5.out).mono ?_
    rintro e w5 ⟨hk5,x5,t5,cs5,rfl,hx5,hr5,hp5⟩
    have hoz:w.heap.size<Wd.heap.size:=HO5.out.lt
    have hcz:gb<Wd.heap.size:=HC5.out.lt
    have HX6:=hid (GX.keepR (X:=fun k=>k<w.heap.size+1\/k=gb) (Or.inl (by omega)) hk5 HX5.out)
    have HX7:=hid (hx5.mono (Y:=fun k=>k<w.heap.size+1\/k=gb) (fun k _ h=>show k<Wd.heap.size by omega))
    have HC6:=hid (HC5.out.keepR hk5 (by omega))
    have HO6:=hid (HO5.out.keepR hk5 (by omega))
    have HR6:=hid hr5
    have HP6:=hid hp5
    have HK6:=hid (HK5.out.trans hk5)
    obtain ⟨q5,m5,z5,b5,l5,c5,rfl⟩:=hx5.four
    replace y0:=HC6.out.cell (j:=0) (by simp)
    replace y1:=HC6.out.cell (j:=1) (by simp)
    replace y2:=HC6.out.cell (j:=2) (by simp)
    replace y3:=HC6.out.cell (j:=3) (by simp)
    simp only [gE0,gE1] at y0 y1 y2 y3
    clear hk5 hx5 hr5 hp5
    refine kK hK trivial (fun hH=>?_)
    clear hK K
    refine rD [3] ?_
    refine AllReadyH.cons rfl (fun K hK=>?_) AllReadyH.nil
    go_simp
    refine (rfTwo_walk (fun k=>k<w.heap.size+1\/k=gb) 13 t t5 [.int .u8 q1,.int .i64 m1,.string z1,.slice b1 l2 c2] [.int .u8 q5,.int .i64 m5,.string z5,.slice b5 l5 c5] w5 (fun k h=>by have:=HC6.out.lt;have:=HO6.out.lt;omega) HX6.out HX7.out).mono ?_
    rintro e w6 ⟨hb6,cs6,rfl,hx6⟩
    have HC7:=hid (Arr.below HC6.out hb6 HC6.out.lt)
    have HO7:=hid (Arr.below HO6.out hb6 HO6.out.lt)
    have HR7:=hid (HR6.out.below hb6)
    have HK7:=hid (HK6.out.next hb6)
    have HX8:=hid hx6
    obtain ⟨q6,m6,z6,b6,l6,c6,rfl⟩:=hx6.four
    have f0:=HC7.out.frozen 0
    have f1:=HC7.out.frozen 1
    have f2:=HC7.out.frozen 2
    have f3:=HC7.out.frozen 3
    replace y0:=HC7.out.cell (j:=0) (by simp)
    replace y1:=HC7.out.cell (j:=1) (by simp)
    replace y2:=HC7.out.cell (j:=2) (by simp)
    replace y3:=HC7.out.cell (j:=3) (by simp)
    simp only [gE0,gE1] at y0 y1 y2 y3
    clear hb6 hx6
    refine kK hK trivial (fun hH=>?_)
    clear hK K
    refine rD [4] ?_
    refine AllReadyH.cons rfl (fun K hK=>?_) AllReadyH.nil
    go_simp
    refine kK hK trivial (fun hH=>?_)
    clear hK K
    refine wpAnyH_done (by kernel_rfl) ?_ _
    have HROW:=hid (LoopW.store (gb:=gb) HK7.out HR7.out HO7.out HC7.out HX8.out hRw hgb1)
    have HLP:=hid (loop_next (k:=13) HL.out (by rw [HNOW.out];rfl) (HX0.out▸HP6.out))
    have HRM:=hid (remR_lt (w:=wr) HGS.out (by rw [HNOW.out];decide) HW.out.rd (HX0.out▸HP6.out) HROW.out.rd)
    clear HR5 HC5 HO5 HK5 HX5 HX6 HX7 HC6 HO6 HR6 HP6 HK6 HC7 HO7 HR7 HK7 HX8 y0 y1 y2 y3 f0 f1 f2 f3
    go_wp2_with fail
    exact ⟨⟨_,_,_,HROW,HLP⟩,HRM.out⟩
   go_simp
   refine (HSUB.out x4 Wd HN4.out HG4.out HR5.out).mono ?_
   rintro e w5 ⟨hk5,x5,t5,cs5,rfl,hx5,hr5,hp5⟩
   have hoz:w.heap.size<Wd.heap.size:=HO5.out.lt
   have hcz:gb<Wd.heap.size:=HC5.out.lt
   have HX6:=hid (GX.keepR (X:=fun k=>k<w.heap.size+1\/k=gb) (Or.inl (by omega)) hk5 HX5.out)
   have HX7:=hid (hx5.mono (Y:=fun k=>k<w.heap.size+1\/k=gb) (fun k _ h=>show k<Wd.heap.size by omega))
   have HC6:=hid (HC5.out.keepR hk5 (by omega))
   have HO6:=hid (HO5.out.keepR hk5 (by omega))
   have HR6:=hid hr5
   have HP6:=hid hp5
   have HK6:=hid (HK5.out.trans hk5)
   obtain ⟨q5,m5,z5,b5,l5,c5,rfl⟩:=hx5.four
   replace y0:=HC6.out.cell (j:=0) (by simp)
   replace y1:=HC6.out.cell (j:=1) (by simp)
   replace y2:=HC6.out.cell (j:=2) (by simp)
   replace y3:=HC6.out.cell (j:=3) (by simp)
   simp only [gE0,gE1] at y0 y1 y2 y3
   clear hk5 hx5 hr5 hp5
   refine kK hK trivial (fun hH=>?_)
   clear hK K
   refine rD [0] ?_
   refine AllReadyH.cons rfl (fun K hK=>?_) AllReadyH.nil
   go_simp
   refine kK hK trivial (fun hH=>?_)
   clear hK K
   refine rD [3] ?_
   refine AllReadyH.cons rfl (fun K hK=>?_) AllReadyH.nil
   go_simp
   refine (rfTwo_walk (fun k=>k<w.heap.size+1\/k=gb) 13 t t5 [.int .u8 q1,.int .i64 m1,.string z1,.slice b1 l2 c2] [.int .u8 q5,.int .i64 m5,.string z5,.slice b5 l5 c5] w5 (fun k h=>by have:=HC6.out.lt;have:=HO6.out.lt;omega) HX6.out HX7.out).mono ?_
   rintro e w6 ⟨hb6,cs6,rfl,hx6⟩
   have HC7:=hid (Arr.below HC6.out hb6 HC6.out.lt)
   have HO7:=hid (Arr.below HO6.out hb6 HO6.out.lt)
   have HR7:=hid (HR6.out.below hb6)
   have HK7:=hid (HK6.out.next hb6)
   have HX8:=hid hx6
   obtain ⟨q6,m6,z6,b6,l6,c6,rfl⟩:=hx6.four
   have f0:=HC7.out.frozen 0
   have f1:=HC7.out.frozen 1
   have f2:=HC7.out.frozen 2
   have f3:=HC7.out.frozen 3
   replace y0:=HC7.out.cell (j:=0) (by simp)
   replace y1:=HC7.out.cell (j:=1) (by simp)
   replace y2:=HC7.out.cell (j:=2) (by simp)
   replace y3:=HC7.out.cell (j:=3) (by simp)
   simp only [gE0,gE1] at y0 y1 y2 y3
   clear hb6 hx6
   refine kK hK trivial (fun hH=>?_)
   clear hK K
   refine rD [4] ?_
   refine AllReadyH.cons rfl (fun K hK=>?_) AllReadyH.nil
   go_simp
   refine kK hK trivial (fun hH=>?_)
   clear hK K
   refine wpAnyH_done (by kernel_rfl) ?_ _
   have HROW:=hid (LoopW.store (gb:=gb) HK7.out HR7.out HO7.out HC7.out HX8.out hRw hgb1)
   have HLP:=hid (loop_next (k:=13) HL.out (by rw [HNOW.out];rfl) (HX0.out▸HP6.out))
   have HRM:=hid (remR_lt (w:=wr) HGS.out (by rw [HNOW.out];decide) HW.out.rd (HX0.out▸HP6.out) HROW.out.rd)
   clear HR5 HC5 HO5 HK5 HX5 HX6 HX7 HC6 HO6 HR6 HP6 HK6 HC7 HO7 HR7 HK7 HX8 y0 y1 y2 y3 f0 f1 f2 f3
   go_wp2_with fail
   exact ⟨⟨_,_,_,HROW,HLP⟩,HRM.out⟩
  | false =>
   obtain ⟨rfl,hn1⟩:=hno rfl
   have HN1:=hid hn1
   clear hyes hno hn1
   have HIS:=hid (rfIsX R s (.ok st) subS w4 hs HL.out.gsx.le HR4.out)
   obtain ⟨b,hb⟩:∃b,(isX s subS (.ok st)).1=b:=⟨_,rfl⟩
   obtain ⟨x4,hx4⟩:∃x4,(isX s subS (.ok st)).2=x4:=⟨_,rfl⟩
   have hyes:b=true->st.now=subS/\x4=stepB s st.i:=fun h=>by obtain ⟨st',h1,h2,h3⟩:=isX_yes (hb.trans h);cases h1;exact ⟨h2,hx4▸h3⟩
   have hno:b=false->x4=.ok st/\¬st.now=subS:=fun h=>⟨hx4▸(isX_no (hb.trans h)).1,(isX_no (hb.trans h)).2 st rfl⟩
   rw [hb,hx4] at HIS
   clear hb hx4 y0 y1 y2 y3
   go_wp2_with fail
   refine HIS.out.mono ?_
   rintro e w8 ⟨hk8,rfl,hr8⟩
   replace HR4:=hid hr8
   replace HC4:=hid (HC4.out.keepR hk8 (by omega))
   replace HO4:=hid (HO4.out.keepR hk8 (by omega))
   replace HK4:=hid (HK4.out.trans hk8)
   replace HX4:=hid (GX.keepR (X:=fun k=>k<w.heap.size+1\/k=gb) (Or.inl (by omega)) hk8 HX4.out)
   clear hk8 hr8 HIS
   have y0:=HC4.out.cell (j:=0) (by simp)
   have y1:=HC4.out.cell (j:=1) (by simp)
   have y2:=HC4.out.cell (j:=2) (by simp)
   have y3:=HC4.out.cell (j:=3) (by simp)
   simp only [gE0,gE1] at y0 y1 y2 y3
   cases b with
   | true =>
    obtain ⟨hnow,rfl⟩:=hyes rfl
    have HNOW:=hid hnow
    generalize hx4:stepB s st.i=x4 at *
    have HX0:=hid hx4
    clear hx4 hyes hno hnow
    go_wp2_with fail
    refine wp_region_held_drew (S:=fun _=>True) (by kernel_rfl) trivial (fun hH=>?_)
    have HR5:=hid (HR4.out.below (Below.refl w8.heap.size w8).drew)
    have HC5:=hid (Arr.drew HC4.out)
    have HO5:=hid (Arr.drew HO4.out)
    have HK5:=hid (KeepR.drew HK4.out)
    have HX5:=hid (HX4.out.below (Below.refl w8.heap.size w8).drew)
    clear HR4 HC4 HO4 HK4 HX4
    replace y0:=HC5.out.cell (j:=0) (by simp)
    replace y1:=HC5.out.cell (j:=1) (by simp)
    replace y2:=HC5.out.cell (j:=2) (by simp)
    replace y3:=HC5.out.cell (j:=3) (by simp)
    simp only [gE0,gE1] at y0 y1 y2 y3
    generalize w8.drew=Wd at *
    refine tK (i:=1) (oi:=⟨some 20,.move (.tmp 0),153,"ref.go:189",#[],none⟩) (v:=.pointer (some ⟨R,0,none⟩)) (Or.inl ⟨by rfl,fun W hS=>by go_simp⟩) hH ?_
    refine rD [0,2] ?_
    refine AllReadyH.cons rfl (fun K hK=>?_) (AllReadyH.cons rfl (fun K hK=>?_) AllReadyH.nil)
    ·go_simp
     refine kK hK trivial (fun hH=>?_)
     clear hK K
     refine rD [2] ?_
     refine AllReadyH.cons rfl (fun K hK=>?_) AllReadyH.nil
     go_simp
     refine (HSUB.out x4 Wd HN4.out HG4.out HR5.out).mono ?_
     rintro e w5 ⟨hk5,x5,t5,cs5,rfl,hx5,hr5,hp5⟩
     have hoz:w.heap.size<Wd.heap.size:=HO5.out.lt
     have hcz:gb<Wd.heap.size:=HC5.out.lt
     have HX6:=hid (GX.keepR (X:=fun k=>k<w.heap.size+1\/k=gb) (Or.inl (by omega)) hk5 HX5.out)
     have HX7:=hid (hx5.mono (Y:=fun k=>k<w.heap.size+1\/k=gb) (fun k _ h=>show k<Wd.heap.size by omega))
     have HC6:=hid (HC5.out.keepR hk5 (by omega))
     have HO6:=hid (HO5.out.keepR hk5 (by omega))
     have HR6:=hid hr5
     have HP6:=hid hp5
     have HK6:=hid (HK5.out.trans hk5)
     obtain ⟨q5,m5,z5,b5,l5,c5,rfl⟩:=hx5.four
     replace y0:=HC6.out.cell (j:=0) (by simp)
     replace y1:=HC6.out.cell (j:=1) (by simp)
     replace y2:=HC6.out.cell (j:=2) (by simp)
     replace y3:=HC6.out.cell (j:=3) (by simp)
     simp only [gE0,gE1] at y0 y1 y2 y3
     clear hk5 hx5 hr5 hp5
     refine kK hK trivial (fun hH=>?_)
     clear hK K
     refine rD [3] ?_
     refine AllReadyH.cons rfl (fun K hK=>?_) AllReadyH.nil
     go_simp
     refine (rfTwo_walk (fun k=>k<w.heap.size+1\/k=gb) 14 t t5 [.int .u8 q1,.int .i64 m1,.string z1,.slice b1 l2 c2] [.int .u8 q5,.int .i64 m5,.string z5,.slice b5 l5 c5] w5 (fun k h=>by have:=HC6.out.lt;have:=HO6.out.lt;omega) HX6.out HX7.out).mono ?_
     rintro e w6 ⟨hb6,cs6,rfl,hx6⟩
     have HC7:=hid (Arr.below HC6.out hb6 HC6.out.lt)
     have HO7:=hid (Arr.below HO6.out hb6 HO6.out.lt)
     have HR7:=hid (HR6.out.below hb6)
     have HK7:=hid (HK6.out.next hb6)
     have HX8:=hid hx6
     obtain ⟨q6,m6,z6,b6,l6,c6,rfl⟩:=hx6.four
     have f0:=HC7.out.frozen 0
     have f1:=HC7.out.frozen 1
     have f2:=HC7.out.frozen 2
     have f3:=HC7.out.frozen 3
     replace y0:=HC7.out.cell (j:=0) (by simp)
     replace y1:=HC7.out.cell (j:=1) (by simp)
     replace y2:=HC7.out.cell (j:=2) (by simp)
     replace y3:=HC7.out.cell (j:=3) (by simp)
     simp only [gE0,gE1] at y0 y1 y2 y3
     clear hb6 hx6
     refine kK hK trivial (fun hH=>?_)
     clear hK K
     refine rD [4] ?_
     refine AllReadyH.cons rfl (fun K hK=>?_) AllReadyH.nil
     go_simp
     refine kK hK trivial (fun hH=>?_)
     clear hK K
     refine wpAnyH_done (by kernel_rfl) ?_ _
     have HROW:=hid (LoopW.store (gb:=gb) HK7.out HR7.out HO7.out HC7.out HX8.out hRw hgb1)
     have HLP:=hid (loop_next (k:=14) HL.out (by rw [HNOW.out];rfl) (HX0.out▸HP6.out))
     have HRM:=hid (remR_lt (w:=wr) HGS.out (by rw [HNOW.out];decide) HW.out.rd (HX0.out▸HP6.out) HROW.out.rd)
     clear HR5 HC5 HO5 HK5 HX5 HX6 HX7 HC6 HO6 HR6 HP6 HK6 HC7 HO7 HR7 HK7 HX8 y0 y1 y2 y3 f0 f1 f2 f3
     go_wp2_with fail
     exact ⟨⟨_,_,_,HROW,HLP⟩,HRM.out⟩
    go_simp
    refine (HSUB.out x4 Wd HN4.out HG4.out HR5.out).mono ?_
    rintro e w5 ⟨hk5,x5,t5,cs5,rfl,hx5,hr5,hp5⟩
    have hoz:w.heap.size<Wd.heap.size:=HO5.out.lt
    have hcz:gb<Wd.heap.size:=HC5.out.lt
    have HX6:=hid (GX.keepR (X:=fun k=>k<w.heap.size+1\/k=gb) (Or.inl (by omega)) hk5 HX5.out)
    have HX7:=hid (hx5.mono (Y:=fun k=>k<w.heap.size+1\/k=gb) (fun k _ h=>show k<Wd.heap.size by omega))
    have HC6:=hid (HC5.out.keepR hk5 (by omega))
    have HO6:=hid (HO5.out.keepR hk5 (by omega))
    have HR6:=hid hr5
    have HP6:=hid hp5
    have HK6:=hid (HK5.out.trans hk5)
    obtain ⟨q5,m5,z5,b5,l5,c5,rfl⟩:=hx5.four
    replace y0:=HC6.out.cell (j:=0) (by simp)
    replace y1:=HC6.out.cell (j:=1) (by simp)
    replace y2:=HC6.out.cell (j:=2) (by simp)
    replace y3:=HC6.out.cell (j:=3) (by simp)
    simp only [gE0,gE1] at y0 y1 y2 y3
    clear hk5 hx5 hr5 hp5
    refine kK hK trivial (fun hH=>?_)
    clear hK K
    refine rD [0] ?_
    refine AllReadyH.cons rfl (fun K hK=>?_) AllReadyH.nil
    go_simp
    refine kK hK trivial (fun hH=>?_)
    clear hK K
    refine rD [3] ?_
    refine AllReadyH.cons rfl (fun K hK=>?_) AllReadyH.nil
    go_simp
    refine (rfTwo_walk (fun k=>k<w.heap.size+1\/k=gb) 14 t t5 [.int .u8 q1,.int .i64 m1,.string z1,.slice b1 l2 c2] [.int .u8 q5,.int .i64 m5,.string z5,.slice b5 l5 c5] w5 (fun k h=>by have:=HC6.out.lt;have:=HO6.out.lt;omega) HX6.out HX7.out).mono ?_
    rintro e w6 ⟨hb6,cs6,rfl,hx6⟩
    have HC7:=hid (Arr.below HC6.out hb6 HC6.out.lt)
    have HO7:=hid (Arr.below HO6.out hb6 HO6.out.lt)
    have HR7:=hid (HR6.out.below hb6)
    have HK7:=hid (HK6.out.next hb6)
    have HX8:=hid hx6
    obtain ⟨q6,m6,z6,b6,l6,c6,rfl⟩:=hx6.four
    have f0:=HC7.out.frozen 0
    have f1:=HC7.out.frozen 1
    have f2:=HC7.out.frozen 2
    have f3:=HC7.out.frozen 3
    replace y0:=HC7.out.cell (j:=0) (by simp)
    replace y1:=HC7.out.cell (j:=1) (by simp)
    replace y2:=HC7.out.cell (j:=2) (by simp)
    replace y3:=HC7.out.cell (j:=3) (by simp)
    simp only [gE0,gE1] at y0 y1 y2 y3
    clear hb6 hx6
    refine kK hK trivial (fun hH=>?_)
    clear hK K
    refine rD [4] ?_
    refine AllReadyH.cons rfl (fun K hK=>?_) AllReadyH.nil
    go_simp
    refine kK hK trivial (fun hH=>?_)
    clear hK K
    refine wpAnyH_done (by kernel_rfl) ?_ _
    have HROW:=hid (LoopW.store (gb:=gb) HK7.out HR7.out HO7.out HC7.out HX8.out hRw hgb1)
    have HLP:=hid (loop_next (k:=14) HL.out (by rw [HNOW.out];rfl) (HX0.out▸HP6.out))
    have HRM:=hid (remR_lt (w:=wr) HGS.out (by rw [HNOW.out];decide) HW.out.rd (HX0.out▸HP6.out) HROW.out.rd)
    clear HR5 HC5 HO5 HK5 HX5 HX6 HX7 HC6 HO6 HR6 HP6 HK6 HC7 HO7 HR7 HK7 HX8 y0 y1 y2 y3 f0 f1 f2 f3
    go_wp2_with fail
    exact ⟨⟨_,_,_,HROW,HLP⟩,HRM.out⟩
   | false =>
    obtain ⟨rfl,hn2⟩:=hno rfl
    have HN2:=hid hn2
    clear hyes hno hn2
    have o0:=HO4.out.cell (j:=0) (by simp)
    have o1:=HO4.out.cell (j:=1) (by simp)
    have o2:=HO4.out.cell (j:=2) (by simp)
    have o3:=HO4.out.cell (j:=3) (by simp)
    simp only [gE0,gE1] at o0 o1 o2 o3
    have f0:=HO4.out.frozen 0
    have f1:=HO4.out.frozen 1
    have f2:=HO4.out.frozen 2
    have f3:=HO4.out.frozen 3
    go_wp2_with fail
    obtain ⟨k1,k2,k3,k4⟩:=storeO (d0:=.int .u8 q1) (d1:=.int .i64 m1) (d2:=.string z1) (d3:=.slice b1 l2 c2) HK4.out HR4.out HO4.out (GX.mono (fun k _ h=>.inl h) HX4.out) hRw
    refine ret_guard (fn:=Tryz.f181) rfl (g:=w.heap.size) (cs:=[.int .u8 q1,.int .i64 m1,.string z1,.slice b1 l2 c2]) rfl rfl rfl k3 ?_
    exact ⟨k1,_,_,_,rfl,k4,k2,loop_end HL.out (fun st' hst=>by injection hst with hst;subst hst;unfold kSum;rw [if_neg HN1.out,if_neg HN2.out]) (fun fu st0=>by rw [pars])⟩
theorem px_pos {s:ByteArray} {nt:NT} {x0:Except Nat GSt} {st:GSt} {t:Option GT} (h:PX s nt x0 (.ok st) t):∃st0,x0=.ok st0/\st0.pos<=st.pos:=by
 cases x0 with
 | error b=>cases (show Except.ok st=Except.error b from h)
 | ok st0 =>
  obtain ⟨fu,r,-,hr⟩:=h
  cases r with
  | error a=>cases (show Except.ok st=Except.error a from hr)
  | ok gs =>
   obtain ⟨g,st1⟩:=gs
   obtain ⟨h1,-,-,h2⟩:=hr
   injection h1 with h1
   exact ⟨st0,rfl,h1▸h2⟩
theorem part_not {s:ByteArray} {st0:GSt} {x2:Except Nat GSt} {t2:Option GT} (hg:GS s st0) (hn:st0.now=notS) (hp:PX s .part (stepB s st0.i) x2 t2):PX s .part (.ok st0) x2 (oneO 8 t2):=by
 have hO:∀fu,pars s (fu+1) .part st0=thenS (stepB s st0.i) fun st1=>thenP (pars s fu .part st1) fun g st2=>some (.ok (.one 8 g,st2)):=fun fu=>by rw [pars,if_pos hn]
 cases hs:stepB s st0.i with
 | error a =>
  rw [hs] at hp
  obtain rfl:x2=.error a:=hp
  exact ⟨1,.error a,by rw [hO 0,hs];rfl,rfl⟩
 | ok st1 =>
  rw [hs] at hp
  obtain ⟨fu,r,hp,hr⟩:=hp
  have h7:=(step_gs hg.le hs).2
  have h8:=hg.pos
  cases r with
  | error a =>
   obtain rfl:x2=.error a:=hr
   exact ⟨fu+1,.error a,by rw [hO fu,hs];show thenP (pars s fu .part st1) _=_;rw [hp];rfl,rfl⟩
  | ok gs =>
   obtain ⟨g2,st2⟩:=gs
   obtain ⟨rfl,rfl,h5,h6⟩:=hr
   exact ⟨fu+1,.ok (.one 8 g2,st2),by rw [hO fu,hs];show thenP (pars s fu .part st1) _=_;rw [hp];rfl,rfl,rfl,h5,by omega⟩
theorem part_rel {s:ByteArray} {x0:Except Nat GSt} {st:GSt} {x2:Except Nat GSt} {t1 t2:Option GT} {k:Nat} (hn:∀st0,x0=.ok st0->¬st0.now=notS) (h1:PX s .sum x0 (.ok st) t1) (hg:GS s st) (hk:kRel st.now=some k) (hp:PX s .sum (stepB s st.i) x2 t2):PX s .part x0 x2 (twoO k t1 t2):=by
 cases x0 with
 | error b=>cases (show Except.ok st=Except.error b from h1)
 | ok st0 =>
  obtain ⟨fu1,r1,hp1,hr1⟩:=h1
  cases r1 with
  | error a=>cases (show Except.ok st=Except.error a from hr1)
  | ok gs =>
   obtain ⟨g1,st1⟩:=gs
   obtain ⟨he,rfl,-,hpos⟩:=hr1
   injection he with he
   subst he
   have hO:∀fu,fu1<=fu->pars s (fu+1) .part st0=thenS (stepB s st.i) fun st2=>thenP (pars s fu .sum st2) fun h st3=>some (.ok (.two k g1 h,st3)):=fun fu hf=>by
    rw [pars,if_neg (hn st0 rfl)]
    show thenP (pars s fu .sum st0) _=_
    rw [pars_up hf .sum _ _ hp1]
    show (match kRel st.now with | none=>_ | some k=>_)=_
    rw [hk]
   cases hs:stepB s st.i with
   | error a =>
    rw [hs] at hp
    obtain rfl:x2=.error a:=hp
    exact ⟨fu1+1,.error a,by rw [hO fu1 (Nat.le_refl _),hs];rfl,rfl⟩
   | ok st2 =>
    rw [hs] at hp
    obtain ⟨fu,r,hp,hr⟩:=hp
    have h7:=(step_gs hg.le hs).2
    have h8:=hg.pos
    have hpm:=pars_up (Nat.le_max_right fu1 fu) .sum _ _ hp
    cases r with
    | error a =>
     obtain rfl:x2=.error a:=hr
     exact ⟨max fu1 fu+1,.error a,by rw [hO _ (Nat.le_max_left fu1 fu),hs];show thenP (pars s (max fu1 fu) .sum st2) _=_;rw [hpm];rfl,rfl⟩
    | ok gs =>
     obtain ⟨g2,st3⟩:=gs
     obtain ⟨rfl,rfl,h5,h6⟩:=hr
     exact ⟨max fu1 fu+1,.ok (.two k g1 g2,st3),by rw [hO _ (Nat.le_max_left fu1 fu),hs];show thenP (pars s (max fu1 fu) .sum st2) _=_;rw [hpm];rfl,rfl,rfl,h5,by omega⟩
theorem part_none {s:ByteArray} {x0 x1:Except Nat GSt} {t1:Option GT} (hn:∀st0,x0=.ok st0->¬st0.now=notS) (h1:PX s .sum x0 x1 t1) (hk:∀st,x1=.ok st->kRel st.now=none):PX s .part x0 x1 t1:=by
 cases x0 with
 | error b=>exact h1
 | ok st0 =>
  obtain ⟨fu1,r1,hp1,hr1⟩:=h1
  have hO:pars s (fu1+1) .part st0=thenP (some r1) fun g st1=>match kRel st1.now with
   | none=>some (.ok (g,st1))
   | some k=>thenS (stepB s st1.i) fun st2=>thenP (pars s fu1 .sum st2) fun h st3=>some (.ok (.two k g h,st3)):=by
   rw [pars,if_neg (hn st0 rfl)]
   show thenP (pars s fu1 .sum st0) _=_
   rw [hp1]
   rfl
  cases r1 with
  | error a=>exact ⟨fu1+1,.error a,hO,hr1⟩
  | ok gs =>
   obtain ⟨g1,st1⟩:=gs
   refine ⟨fu1+1,.ok (g1,st1),?_,hr1⟩
   rw [hO]
   show (match kRel st1.now with | none=>_ | some k=>_)=_
   rw [hk st1 hr1.1]
theorem rf_part {R:Nat} {s:ByteArray} {N:Nat} (hs:s.size<=17000) (hsub:SubX R s N 181 .sum) (hpart:∀M,M<N->SubX R s M 159 .part):SubX R s N 159 .part:=by
 intro x0 w hN hg h
 have hRw:R<w.heap.size:=h.lt
 have HSUB:=hid hsub
 have HPART:=hid hpart
 have HN:=hid hN
 have HG:=hid hg
 have hra:RfIs R (w.alloc (.cells #[.int .u8 0,.int .i64 0,.string ⟨#[]⟩,.slice none 0 0] 80)) s x0:=h.below ((Below.refl _ w).alloc (Nat.le_refl _) _)
 have HIS:=hid (rfIsX R s x0 notS _ hs hg.le hra)
 obtain ⟨b,hb⟩:∃b,(isX s notS x0).1=b:=⟨_,rfl⟩
 obtain ⟨x1,hx1⟩:∃x1,(isX s notS x0).2=x1:=⟨_,rfl⟩
 have hyes:b=true->∃st,x0=.ok st/\st.now=notS/\x1=stepB s st.i:=fun h=>hx1▸isX_yes (hb.trans h)
 have hno:b=false->x1=x0/\∀st,x0=.ok st->¬st.now=notS:=fun h=>hx1▸isX_no (hb.trans h)
 rw [hb,hx1] at HIS
 clear h hra hg hN hsub hpart hb hx1
 go_enter Tryz.func159,Tryz.ntmps159
 go_wp2_with fail
 refine HIS.out.mono ?_
 rintro e w1 ⟨hk1,rfl,hr1⟩
 have hgb0:w.heap.size<w1.heap.size:=by have:=hk1.size;rw [size_alloc] at this;omega
 have HK1:=hid ((KeepR.of ((Below.refl w.heap.size w).alloc (Nat.le_refl _) (.cells #[.int .u8 0,.int .i64 0,.string ⟨#[]⟩,.slice none 0 0] 80))).trans hk1)
 have HO1:=hid ((Arr.new w [.int .u8 0,.int .i64 0,.string ⟨#[]⟩,.slice none 0 0] 80).keepR hk1 (by omega))
 have HR1:=hid hr1
 clear hk1 hr1 HIS
 cases b with
 | true =>
  obtain ⟨st0,rfl,hnow,rfl⟩:=hyes rfl
  have hgs:=HG.out st0 rfl
  have hn0:=HN.out st0 rfl
  have HNOW:=hid hnow
  have HGS:=hid hgs
  have HG4:=hid (GSX.step hgs)
  have HN4:Hid (∀st',stepB s st0.i=.ok st'->s.size-st'.pos<N-1):=fun st' hst=>by
   have h1:=(step_gs hgs.le hst).2
   have h2:=hgs.le
   have h3:st0.pos<st0.i:=by rcases hgs.adv with h | h;exact absurd h (by rw [hnow];decide);exact h
   omega
  have hN1:N-1<N:=by omega
  generalize hx4:stepB s st0.i=x4 at *
  have HX0:=hid hx4
  clear hx4 hyes hno hgs hnow
  go_wp2_with fail
  refine (HPART.out (N-1) hN1 x4 w1 HN4.out HG4.out HR1.out).mono ?_
  rintro e w2 ⟨hk2,x2,t2,cs2,rfl,hx2,hr2,hp2⟩
  have hgb1:w.heap.size<w2.heap.size:=by have:=hk2.size;omega
  obtain ⟨k1,n1,s1,a1,l1,c1,rfl⟩:=hx2.four
  have HO2:=hid (HO1.out.keepR hk2 (by omega))
  have HR2:=hid hr2
  have HK2:=hid (HK1.out.trans hk2)
  have HX2:Hid (GX (fun k=>k<w.heap.size+1) w2 t2 [.int .u8 k1,.int .i64 n1,.string s1,.slice a1 l1 c1]):=hx2.mono (fun k _ h=>show k<w1.heap.size by omega)
  have HP2:=hid hp2
  clear hk2 hx2 hr2 hp2
  have f0:=HO2.out.frozen 0
  have f1:=HO2.out.frozen 1
  have f2:=HO2.out.frozen 2
  have f3:=HO2.out.frozen 3
  have y0:=HO2.out.cell (j:=0) (by simp)
  have y1:=HO2.out.cell (j:=1) (by simp)
  have y2:=HO2.out.cell (j:=2) (by simp)
  have y3:=HO2.out.cell (j:=3) (by simp)
  simp only [gE0,gE1] at y0 y1 y2 y3
  go_wp2_with fail
  obtain ⟨k1',k2',k3',-⟩:=storeO (t:=none) (d0:=.int .u8 8) (d1:=.int .i64 0) (d2:=.string ⟨#[]⟩) (d3:=.slice (some ⟨w2.heap.size,0,none⟩) 1 1) HK2.out HR2.out HO2.out ⟨8,_,_,_,_,_,rfl⟩ hRw
  have k4':=GX.setCell (p:=⟨w.heap.size,3,none⟩) (Nat.lt_succ_self _) (.slice (some ⟨w2.heap.size,0,none⟩) 1 1) (GX.setCell (p:=⟨w.heap.size,2,none⟩) (Nat.lt_succ_self _) (.string ⟨#[]⟩) (GX.setCell (p:=⟨w.heap.size,1,none⟩) (Nat.lt_succ_self _) (.int .i64 0) (GX.setCell (p:=⟨w.heap.size,0,none⟩) (Nat.lt_succ_self _) (.int .u8 8) HX2.out)))
  have hsz:((((w2.setCell ⟨w.heap.size,0,none⟩ (.int .u8 8)).setCell ⟨w.heap.size,1,none⟩ (.int .i64 0)).setCell ⟨w.heap.size,2,none⟩ (.string ⟨#[]⟩)).setCell ⟨w.heap.size,3,none⟩ (.slice (some ⟨w2.heap.size,0,none⟩) 1 1)).heap.size=w2.heap.size:=by simp
  generalize (((w2.setCell ⟨w.heap.size,0,none⟩ (.int .u8 8)).setCell ⟨w.heap.size,1,none⟩ (.int .i64 0)).setCell ⟨w.heap.size,2,none⟩ (.string ⟨#[]⟩)).setCell ⟨w.heap.size,3,none⟩ (.slice (some ⟨w2.heap.size,0,none⟩) 1 1)=w5 at *
  have hb5:=(Below.refl w5.heap.size w5).alloc (Nat.le_refl _) (.cells #[.int .u8 k1,.int .i64 n1,.string s1,.slice a1 l1 c1] 80)
  have k5':GX (fun k=>k<w.heap.size) (w5.alloc (.cells #[.int .u8 k1,.int .i64 n1,.string s1,.slice a1 l1 c1] 80)) (oneO 8 t2) [.int .u8 8,.int .i64 0,.string ⟨#[]⟩,.slice (some ⟨w2.heap.size,0,none⟩) 1 1]:=by
   cases t2 with
   | none=>exact ⟨8,_,_,_,_,_,rfl⟩
   | some g2=>exact ⟨_,_,rfl,by omega,⟨alloc_at hsz.symm⟩,GIs.mono (fun k _ h=>Nat.lt_succ_of_lt h) (GIs.below hb5 k4')⟩
  refine ret_guard (fn:=Tryz.f159) rfl (g:=w.heap.size) (cs:=[.int .u8 8,.int .i64 0,.string ⟨#[]⟩,.slice (some ⟨w2.heap.size,0,none⟩) 1 1]) rfl rfl rfl (k3'.alloc _) ?_
  exact ⟨k1'.next hb5,_,_,_,rfl,k5',k2'.below hb5,part_not HGS.out HNOW.out (HX0.out▸HP2.out)⟩
 | false =>
  obtain ⟨rfl,hn0⟩:=hno rfl
  have HN0:=hid hn0
  clear hyes hno hn0
  go_wp2_with fail
  refine (HSUB.out x1 w1 HN.out HG.out HR1.out).mono ?_
  rintro e w2 ⟨hk2,x,t,cs,rfl,hx1,hr2,hp1⟩
  have hgb1:w.heap.size<w2.heap.size:=by have:=hk2.size;omega
  have HX0:=hid hp1
  have hX1:GX (fun k=>k<w.heap.size+1\/k=w2.heap.size) w2 t cs:=hx1.mono (fun k hk h=>show k<w1.heap.size by omega)
  obtain ⟨q1,m1,z1,b1,l2,c2,rfl⟩:=hx1.four
  have hbel:=(Below.refl w2.heap.size w2).alloc (Nat.le_refl _) (.cells #[.int .u8 q1,.int .i64 m1,.string z1,.slice b1 l2 c2] 80)
  have HW:Hid (LoopW R s w w2.heap.size (w2.alloc (.cells #[.int .u8 q1,.int .i64 m1,.string z1,.slice b1 l2 c2] 80)) x t [.int .u8 q1,.int .i64 m1,.string z1,.slice b1 l2 c2]) :=
   ⟨hr2.below hbel,(HK1.out.trans hk2).alloc _,(HO1.out.keepR hk2 (by omega)).alloc _,Arr.new w2 [.int .u8 q1,.int .i64 m1,.string z1,.slice b1 l2 c2] 80,hX1.below hbel⟩
  have HGX:=hid (PX.gsx hp1)
  clear hk2 hX1 hx1 hr2 hp1 hbel HK1 HO1 HR1
  go_upto_region 4 with fail
  generalize w2.alloc (.cells #[.int .u8 q1,.int .i64 m1,.string z1,.slice b1 l2 c2] 80)=w3 at *
  generalize w2.heap.size=gb at *
  have HR4:=hid HW.out.rd
  have HC4:=hid HW.out.cell
  have HO4:=hid HW.out.out
  have HK4:=hid HW.out.keep
  have HX4:=hid HW.out.gx
  clear HW
  have HIS:=hid (rfIsX R s x eqS w3 hs HGX.out.le HR4.out)
  obtain ⟨b,hb⟩:∃b,(isX s eqS x).1=b:=⟨_,rfl⟩
  obtain ⟨x4,hx4⟩:∃x4,(isX s eqS x).2=x4:=⟨_,rfl⟩
  have hyes:b=true->∃st,x=.ok st/\st.now=eqS/\x4=stepB s st.i:=fun h=>hx4▸isX_yes (hb.trans h)
  have hno:b=false->x4=x/\∀st,x=.ok st->¬st.now=eqS:=fun h=>hx4▸isX_no (hb.trans h)
  rw [hb,hx4] at HIS
  clear hb hx4
  go_wp2_with fail
  refine HIS.out.mono ?_
  rintro e w4 ⟨hk8,rfl,hr8⟩
  replace HR4:=hid hr8
  replace HC4:=hid (HC4.out.keepR hk8 (by omega))
  replace HO4:=hid (HO4.out.keepR hk8 (by omega))
  replace HK4:=hid (HK4.out.trans hk8)
  replace HX4:=hid (GX.keepR (X:=fun k=>k<w.heap.size+1\/k=gb) (Or.inl (by omega)) hk8 HX4.out)
  clear hk8 hr8 HIS
  cases b with
  | true =>
   obtain ⟨st,rfl,hnow,rfl⟩:=hyes rfl
   have hgs:=HGX.out st rfl
   have HNOW:=hid hnow
   have HGS:=hid hgs
   have HG4:=hid (GSX.step hgs)
   have HN4:Hid (∀st',stepB s st.i=.ok st'->s.size-st'.pos<N):=fun st' hst=>by
    have h1:=(step_gs hgs.le hst).2
    have h2:=hgs.pos
    obtain ⟨st0,h3,h4⟩:=px_pos HX0.out
    have h5:=HN.out st0 h3
    omega
   generalize hx4:stepB s st.i=x4 at *
   have HX9:=hid hx4
   clear hx4 hyes hno hgs hnow
   have y0:=HC4.out.cell (j:=0) (by simp)
   have y1:=HC4.out.cell (j:=1) (by simp)
   have y2:=HC4.out.cell (j:=2) (by simp)
   have y3:=HC4.out.cell (j:=3) (by simp)
   simp only [gE0,gE1] at y0 y1 y2 y3
   go_wp2_with fail
   refine wp_region_held_drew (S:=fun _=>True) (by kernel_rfl) trivial (fun hH=>?_)
   have HR5:=hid (HR4.out.below (Below.refl w4.heap.size w4).drew)
   have HC5:=hid (Arr.drew HC4.out)
   have HO5:=hid (Arr.drew HO4.out)
   have HK5:=hid (KeepR.drew HK4.out)
   have HX5:=hid (HX4.out.below (Below.refl w4.heap.size w4).drew)
   clear HR4 HC4 HO4 HK4 HX4
   replace y0:=HC5.out.cell (j:=0) (by simp)
   replace y1:=HC5.out.cell (j:=1) (by simp)
   replace y2:=HC5.out.cell (j:=2) (by simp)
   replace y3:=HC5.out.cell (j:=3) (by simp)
   simp only [gE0,gE1] at y0 y1 y2 y3
   generalize w4.drew=Wd at *
   refine tK (i:=1) (oi:=⟨some 15,.move (.tmp 0),153,"ref.go:175",#[],none⟩) (v:=.pointer (some ⟨R,0,none⟩)) (Or.inl ⟨by rfl,fun W hS=>by go_simp⟩) hH ?_
   refine rD [0,2] ?_
   refine AllReadyH.cons rfl (fun K hK=>?_) (AllReadyH.cons rfl (fun K hK=>?_) AllReadyH.nil)
   ·go_simp
    refine kK hK trivial (fun hH=>?_)
    clear hK K
    refine rD [2] ?_
    refine AllReadyH.cons rfl (fun K hK=>?_) AllReadyH.nil
    go_simp
    refine (HSUB.out x4 Wd HN4.out HG4.out HR5.out).mono ?_
    rintro e w5 ⟨hk5,x5,t5,cs5,rfl,hx5,hr5,hp5⟩
    have hoz:w.heap.size<Wd.heap.size:=HO5.out.lt
    have hcz:gb<Wd.heap.size:=HC5.out.lt
    have HX6:=hid (GX.keepR (X:=fun k=>k<w.heap.size+1\/k=gb) (Or.inl (by omega)) hk5 HX5.out)
    have HX7:=hid (hx5.mono (Y:=fun k=>k<w.heap.size+1\/k=gb) (fun k _ h=>show k<Wd.heap.size by omega))
    have HC6:=hid (HC5.out.keepR hk5 (by omega))
    have HO6:=hid (HO5.out.keepR hk5 (by omega))
    have HR6:=hid hr5
    have HP6:=hid hp5
    have HK6:=hid (HK5.out.trans hk5)
    obtain ⟨q5,m5,z5,b5,l5,c5,rfl⟩:=hx5.four
    replace y0:=HC6.out.cell (j:=0) (by simp)
    replace y1:=HC6.out.cell (j:=1) (by simp)
    replace y2:=HC6.out.cell (j:=2) (by simp)
    replace y3:=HC6.out.cell (j:=3) (by simp)
    simp only [gE0,gE1] at y0 y1 y2 y3
    clear hk5 hx5 hr5 hp5
    refine kK hK trivial (fun hH=>?_)
    clear hK K
    refine rD [3] ?_
    refine AllReadyH.cons rfl (fun K hK=>?_) AllReadyH.nil
    go_simp
    refine (rfTwo_walk (fun k=>k<w.heap.size+1\/k=gb) 11 t t5 [.int .u8 q1,.int .i64 m1,.string z1,.slice b1 l2 c2] [.int .u8 q5,.int .i64 m5,.string z5,.slice b5 l5 c5] w5 (fun k h=>by have:=HC6.out.lt;have:=HO6.out.lt;omega) HX6.out HX7.out).mono ?_
    rintro e w6 ⟨hb6,cs6,rfl,hx6⟩
    have HC7:=hid (Arr.below HC6.out hb6 HC6.out.lt)
    have HO7:=hid (Arr.below HO6.out hb6 HO6.out.lt)
    have HR7:=hid (HR6.out.below hb6)
    have HK7:=hid (HK6.out.next hb6)
    have HX8:=hid hx6
    obtain ⟨q6,m6,z6,b6,l6,c6,rfl⟩:=hx6.four
    have f0:=HO7.out.frozen 0
    have f1:=HO7.out.frozen 1
    have f2:=HO7.out.frozen 2
    have f3:=HO7.out.frozen 3
    replace y0:=HO7.out.cell (j:=0) (by simp)
    replace y1:=HO7.out.cell (j:=1) (by simp)
    replace y2:=HO7.out.cell (j:=2) (by simp)
    replace y3:=HO7.out.cell (j:=3) (by simp)
    simp only [gE0,gE1] at y0 y1 y2 y3
    clear hb6 hx6
    refine kK hK trivial (fun hH=>?_)
    clear hK K
    refine rD [4] ?_
    refine AllReadyH.cons rfl (fun K hK=>?_) AllReadyH.nil
    go_simp
    refine kK hK trivial (fun hH=>?_)
    clear hK K
    refine wpAnyH_done (by kernel_rfl) ?_ _
    obtain ⟨k1,k2,k3,k4⟩:=storeO (d0:=.int .u8 q6) (d1:=.int .i64 m6) (d2:=.string z6) (d3:=.slice b6 l6 c6) HK7.out HR7.out HO7.out (GX.mono (fun k _ h=>.inl h) HX8.out) hRw
    go_wp2_with fail
    refine ret_guard (fn:=Tryz.f159) rfl (g:=w.heap.size) (cs:=[.int .u8 q6,.int .i64 m6,.string z6,.slice b6 l6 c6]) rfl rfl rfl k3 ?_
    exact ⟨k1,_,_,_,rfl,k4,k2,part_rel HN0.out HX0.out HGS.out (k:=11) (by rw [HNOW.out];rfl) (HX9.out▸HP6.out)⟩
   go_simp
   refine (HSUB.out x4 Wd HN4.out HG4.out HR5.out).mono ?_
   rintro e w5 ⟨hk5,x5,t5,cs5,rfl,hx5,hr5,hp5⟩
   have hoz:w.heap.size<Wd.heap.size:=HO5.out.lt
   have hcz:gb<Wd.heap.size:=HC5.out.lt
   have HX6:=hid (GX.keepR (X:=fun k=>k<w.heap.size+1\/k=gb) (Or.inl (by omega)) hk5 HX5.out)
   have HX7:=hid (hx5.mono (Y:=fun k=>k<w.heap.size+1\/k=gb) (fun k _ h=>show k<Wd.heap.size by omega))
   have HC6:=hid (HC5.out.keepR hk5 (by omega))
   have HO6:=hid (HO5.out.keepR hk5 (by omega))
   have HR6:=hid hr5
   have HP6:=hid hp5
   have HK6:=hid (HK5.out.trans hk5)
   obtain ⟨q5,m5,z5,b5,l5,c5,rfl⟩:=hx5.four
   replace y0:=HC6.out.cell (j:=0) (by simp)
   replace y1:=HC6.out.cell (j:=1) (by simp)
   replace y2:=HC6.out.cell (j:=2) (by simp)
   replace y3:=HC6.out.cell (j:=3) (by simp)
   simp only [gE0,gE1] at y0 y1 y2 y3
   clear hk5 hx5 hr5 hp5
   refine kK hK trivial (fun hH=>?_)
   clear hK K
   refine rD [0] ?_
   refine AllReadyH.cons rfl (fun K hK=>?_) AllReadyH.nil
   go_simp
   refine kK hK trivial (fun hH=>?_)
   clear hK K
   refine rD [3] ?_
   refine AllReadyH.cons rfl (fun K hK=>?_) AllReadyH.nil
   go_simp
   refine (rfTwo_walk (fun k=>k<w.heap.size+1\/k=gb) 11 t t5 [.int .u8 q1,.int .i64 m1,.string z1,.slice b1 l2 c2] [.int .u8 q5,.int .i64 m5,.string z5,.slice b5 l5 c5] w5 (fun k h=>by have:=HC6.out.lt;have:=HO6.out.lt;omega) HX6.out HX7.out).mono ?_
   rintro e w6 ⟨hb6,cs6,rfl,hx6⟩
   have HC7:=hid (Arr.below HC6.out hb6 HC6.out.lt)
   have HO7:=hid (Arr.below HO6.out hb6 HO6.out.lt)
   have HR7:=hid (HR6.out.below hb6)
   have HK7:=hid (HK6.out.next hb6)
   have HX8:=hid hx6
   obtain ⟨q6,m6,z6,b6,l6,c6,rfl⟩:=hx6.four
   have f0:=HO7.out.frozen 0
   have f1:=HO7.out.frozen 1
   have f2:=HO7.out.frozen 2
   have f3:=HO7.out.frozen 3
   replace y0:=HO7.out.cell (j:=0) (by simp)
   replace y1:=HO7.out.cell (j:=1) (by simp)
   replace y2:=HO7.out.cell (j:=2) (by simp)
   replace y3:=HO7.out.cell (j:=3) (by simp)
   simp only [gE0,gE1] at y0 y1 y2 y3
   clear hb6 hx6
   refine kK hK trivial (fun hH=>?_)
   clear hK K
   refine rD [4] ?_
   refine AllReadyH.cons rfl (fun K hK=>?_) AllReadyH.nil
   go_simp
   refine kK hK trivial (fun hH=>?_)
   clear hK K
   refine wpAnyH_done (by kernel_rfl) ?_ _
   obtain ⟨k1,k2,k3,k4⟩:=storeO (d0:=.int .u8 q6) (d1:=.int .i64 m6) (d2:=.string z6) (d3:=.slice b6 l6 c6) HK7.out HR7.out HO7.out (GX.mono (fun k _ h=>.inl h) HX8.out) hRw
   go_wp2_with fail
   refine ret_guard (fn:=Tryz.f159) rfl (g:=w.heap.size) (cs:=[.int .u8 q6,.int .i64 m6,.string z6,.slice b6 l6 c6]) rfl rfl rfl k3 ?_
   exact ⟨k1,_,_,_,rfl,k4,k2,part_rel HN0.out HX0.out HGS.out (k:=11) (by rw [HNOW.out];rfl) (HX9.out▸HP6.out)⟩
  | false =>
   obtain ⟨hxe,hn11⟩:=hno rfl
   replace hxe:=hxe.symm
   subst hxe
   have HNO11:=hid hn11
   clear hyes hno hn11
   have HIS:=hid (rfIsX R s x ltS w4 hs HGX.out.le HR4.out)
   obtain ⟨b,hb⟩:∃b,(isX s ltS x).1=b:=⟨_,rfl⟩
   obtain ⟨x4,hx4⟩:∃x4,(isX s ltS x).2=x4:=⟨_,rfl⟩
   have hyes:b=true->∃st,x=.ok st/\st.now=ltS/\x4=stepB s st.i:=fun h=>hx4▸isX_yes (hb.trans h)
   have hno:b=false->x4=x/\∀st,x=.ok st->¬st.now=ltS:=fun h=>hx4▸isX_no (hb.trans h)
   rw [hb,hx4] at HIS
   clear hb hx4
   go_wp2_with fail
   refine HIS.out.mono ?_
   rintro e w5a ⟨hk8,rfl,hr8⟩
   replace HR4:=hid hr8
   replace HC4:=hid (HC4.out.keepR hk8 (by omega))
   replace HO4:=hid (HO4.out.keepR hk8 (by omega))
   replace HK4:=hid (HK4.out.trans hk8)
   replace HX4:=hid (GX.keepR (X:=fun k=>k<w.heap.size+1\/k=gb) (Or.inl (by omega)) hk8 HX4.out)
   clear hk8 hr8 HIS
   cases b with
   | true =>
    obtain ⟨st,rfl,hnow,rfl⟩:=hyes rfl
    have hgs:=HGX.out st rfl
    have HNOW:=hid hnow
    have HGS:=hid hgs
    have HG4:=hid (GSX.step hgs)
    have HN4:Hid (∀st',stepB s st.i=.ok st'->s.size-st'.pos<N):=fun st' hst=>by
     have h1:=(step_gs hgs.le hst).2
     have h2:=hgs.pos
     obtain ⟨st0,h3,h4⟩:=px_pos HX0.out
     have h5:=HN.out st0 h3
     omega
    generalize hx4:stepB s st.i=x4 at *
    have HX9:=hid hx4
    clear hx4 hyes hno hgs hnow
    have y0:=HC4.out.cell (j:=0) (by simp)
    have y1:=HC4.out.cell (j:=1) (by simp)
    have y2:=HC4.out.cell (j:=2) (by simp)
    have y3:=HC4.out.cell (j:=3) (by simp)
    simp only [gE0,gE1] at y0 y1 y2 y3
    go_wp2_with fail
    refine wp_region_held_drew (S:=fun _=>True) (by kernel_rfl) trivial (fun hH=>?_)
    have HR5:=hid (HR4.out.below (Below.refl w5a.heap.size w5a).drew)
    have HC5:=hid (Arr.drew HC4.out)
    have HO5:=hid (Arr.drew HO4.out)
    have HK5:=hid (KeepR.drew HK4.out)
    have HX5:=hid (HX4.out.below (Below.refl w5a.heap.size w5a).drew)
    clear HR4 HC4 HO4 HK4 HX4
    replace y0:=HC5.out.cell (j:=0) (by simp)
    replace y1:=HC5.out.cell (j:=1) (by simp)
    replace y2:=HC5.out.cell (j:=2) (by simp)
    replace y3:=HC5.out.cell (j:=3) (by simp)
    simp only [gE0,gE1] at y0 y1 y2 y3
    generalize w5a.drew=Wd at *
    refine tK (i:=1) (oi:=⟨some 21,.move (.tmp 0),153,"ref.go:178",#[],none⟩) (v:=.pointer (some ⟨R,0,none⟩)) (Or.inl ⟨by rfl,fun W hS=>by go_simp⟩) hH ?_
    refine rD [0,2] ?_
    refine AllReadyH.cons rfl (fun K hK=>?_) (AllReadyH.cons rfl (fun K hK=>?_) AllReadyH.nil)
    ·go_simp
     refine kK hK trivial (fun hH=>?_)
     clear hK K
     refine rD [2] ?_
     refine AllReadyH.cons rfl (fun K hK=>?_) AllReadyH.nil
     go_simp
     refine (HSUB.out x4 Wd HN4.out HG4.out HR5.out).mono ?_
     rintro e w5 ⟨hk5,x5,t5,cs5,rfl,hx5,hr5,hp5⟩
     have hoz:w.heap.size<Wd.heap.size:=HO5.out.lt
     have hcz:gb<Wd.heap.size:=HC5.out.lt
     have HX6:=hid (GX.keepR (X:=fun k=>k<w.heap.size+1\/k=gb) (Or.inl (by omega)) hk5 HX5.out)
     have HX7:=hid (hx5.mono (Y:=fun k=>k<w.heap.size+1\/k=gb) (fun k _ h=>show k<Wd.heap.size by omega))
     have HC6:=hid (HC5.out.keepR hk5 (by omega))
     have HO6:=hid (HO5.out.keepR hk5 (by omega))
     have HR6:=hid hr5
     have HP6:=hid hp5
     have HK6:=hid (HK5.out.trans hk5)
     obtain ⟨q5,m5,z5,b5,l5,c5,rfl⟩:=hx5.four
     replace y0:=HC6.out.cell (j:=0) (by simp)
     replace y1:=HC6.out.cell (j:=1) (by simp)
     replace y2:=HC6.out.cell (j:=2) (by simp)
     replace y3:=HC6.out.cell (j:=3) (by simp)
     simp only [gE0,gE1] at y0 y1 y2 y3
     clear hk5 hx5 hr5 hp5
     refine kK hK trivial (fun hH=>?_)
     clear hK K
     refine rD [3] ?_
     refine AllReadyH.cons rfl (fun K hK=>?_) AllReadyH.nil
     go_simp
     refine (rfTwo_walk (fun k=>k<w.heap.size+1\/k=gb) 12 t t5 [.int .u8 q1,.int .i64 m1,.string z1,.slice b1 l2 c2] [.int .u8 q5,.int .i64 m5,.string z5,.slice b5 l5 c5] w5 (fun k h=>by have:=HC6.out.lt;have:=HO6.out.lt;omega) HX6.out HX7.out).mono ?_
     rintro e w6 ⟨hb6,cs6,rfl,hx6⟩
     have HC7:=hid (Arr.below HC6.out hb6 HC6.out.lt)
     have HO7:=hid (Arr.below HO6.out hb6 HO6.out.lt)
     have HR7:=hid (HR6.out.below hb6)
     have HK7:=hid (HK6.out.next hb6)
     have HX8:=hid hx6
     obtain ⟨q6,m6,z6,b6,l6,c6,rfl⟩:=hx6.four
     have f0:=HO7.out.frozen 0
     have f1:=HO7.out.frozen 1
     have f2:=HO7.out.frozen 2
     have f3:=HO7.out.frozen 3
     replace y0:=HO7.out.cell (j:=0) (by simp)
     replace y1:=HO7.out.cell (j:=1) (by simp)
     replace y2:=HO7.out.cell (j:=2) (by simp)
     replace y3:=HO7.out.cell (j:=3) (by simp)
     simp only [gE0,gE1] at y0 y1 y2 y3
     clear hb6 hx6
     refine kK hK trivial (fun hH=>?_)
     clear hK K
     refine rD [4] ?_
     refine AllReadyH.cons rfl (fun K hK=>?_) AllReadyH.nil
     go_simp
     refine kK hK trivial (fun hH=>?_)
     clear hK K
     refine wpAnyH_done (by kernel_rfl) ?_ _
     obtain ⟨k1,k2,k3,k4⟩:=storeO (d0:=.int .u8 q6) (d1:=.int .i64 m6) (d2:=.string z6) (d3:=.slice b6 l6 c6) HK7.out HR7.out HO7.out (GX.mono (fun k _ h=>.inl h) HX8.out) hRw
     go_wp2_with fail
     refine ret_guard (fn:=Tryz.f159) rfl (g:=w.heap.size) (cs:=[.int .u8 q6,.int .i64 m6,.string z6,.slice b6 l6 c6]) rfl rfl rfl k3 ?_
     exact ⟨k1,_,_,_,rfl,k4,k2,part_rel HN0.out HX0.out HGS.out (k:=12) (by rw [HNOW.out];rfl) (HX9.out▸HP6.out)⟩
    go_simp
    refine (HSUB.out x4 Wd HN4.out HG4.out HR5.out).mono ?_
    rintro e w5 ⟨hk5,x5,t5,cs5,rfl,hx5,hr5,hp5⟩
    have hoz:w.heap.size<Wd.heap.size:=HO5.out.lt
    have hcz:gb<Wd.heap.size:=HC5.out.lt
    have HX6:=hid (GX.keepR (X:=fun k=>k<w.heap.size+1\/k=gb) (Or.inl (by omega)) hk5 HX5.out)
    have HX7:=hid (hx5.mono (Y:=fun k=>k<w.heap.size+1\/k=gb) (fun k _ h=>show k<Wd.heap.size by omega))
    have HC6:=hid (HC5.out.keepR hk5 (by omega))
    have HO6:=hid (HO5.out.keepR hk5 (by omega))
    have HR6:=hid hr5
    have HP6:=hid hp5
    have HK6:=hid (HK5.out.trans hk5)
    obtain ⟨q5,m5,z5,b5,l5,c5,rfl⟩:=hx5.four
    replace y0:=HC6.out.cell (j:=0) (by simp)
    replace y1:=HC6.out.cell (j:=1) (by simp)
    replace y2:=HC6.out.cell (j:=2) (by simp)
    replace y3:=HC6.out.cell (j:=3) (by simp)
    simp only [gE0,gE1] at y0 y1 y2 y3
    clear hk5 hx5 hr5 hp5
    refine kK hK trivial (fun hH=>?_)
    clear hK K
    refine rD [0] ?_
    refine AllReadyH.cons rfl (fun K hK=>?_) AllReadyH.nil
    go_simp
    refine kK hK trivial (fun hH=>?_)
    clear hK K
    refine rD [3] ?_
    refine AllReadyH.cons rfl (fun K hK=>?_) AllReadyH.nil
    go_simp
    refine (rfTwo_walk (fun k=>k<w.heap.size+1\/k=gb) 12 t t5 [.int .u8 q1,.int .i64 m1,.string z1,.slice b1 l2 c2] [.int .u8 q5,.int .i64 m5,.string z5,.slice b5 l5 c5] w5 (fun k h=>by have:=HC6.out.lt;have:=HO6.out.lt;omega) HX6.out HX7.out).mono ?_
    rintro e w6 ⟨hb6,cs6,rfl,hx6⟩
    have HC7:=hid (Arr.below HC6.out hb6 HC6.out.lt)
    have HO7:=hid (Arr.below HO6.out hb6 HO6.out.lt)
    have HR7:=hid (HR6.out.below hb6)
    have HK7:=hid (HK6.out.next hb6)
    have HX8:=hid hx6
    obtain ⟨q6,m6,z6,b6,l6,c6,rfl⟩:=hx6.four
    have f0:=HO7.out.frozen 0
    have f1:=HO7.out.frozen 1
    have f2:=HO7.out.frozen 2
    have f3:=HO7.out.frozen 3
    replace y0:=HO7.out.cell (j:=0) (by simp)
    replace y1:=HO7.out.cell (j:=1) (by simp)
    replace y2:=HO7.out.cell (j:=2) (by simp)
    replace y3:=HO7.out.cell (j:=3) (by simp)
    simp only [gE0,gE1] at y0 y1 y2 y3
    clear hb6 hx6
    refine kK hK trivial (fun hH=>?_)
    clear hK K
    refine rD [4] ?_
    refine AllReadyH.cons rfl (fun K hK=>?_) AllReadyH.nil
    go_simp
    refine kK hK trivial (fun hH=>?_)
    clear hK K
    refine wpAnyH_done (by kernel_rfl) ?_ _
    obtain ⟨k1,k2,k3,k4⟩:=storeO (d0:=.int .u8 q6) (d1:=.int .i64 m6) (d2:=.string z6) (d3:=.slice b6 l6 c6) HK7.out HR7.out HO7.out (GX.mono (fun k _ h=>.inl h) HX8.out) hRw
    go_wp2_with fail
    refine ret_guard (fn:=Tryz.f159) rfl (g:=w.heap.size) (cs:=[.int .u8 q6,.int .i64 m6,.string z6,.slice b6 l6 c6]) rfl rfl rfl k3 ?_
    exact ⟨k1,_,_,_,rfl,k4,k2,part_rel HN0.out HX0.out HGS.out (k:=12) (by rw [HNOW.out];rfl) (HX9.out▸HP6.out)⟩
   | false =>
    obtain ⟨hxe,hn12⟩:=hno rfl
    replace hxe:=hxe.symm
    subst hxe
    have HNO12:=hid hn12
    clear hyes hno hn12
    have y0:=HC4.out.cell (j:=0) (by simp)
    have y1:=HC4.out.cell (j:=1) (by simp)
    have y2:=HC4.out.cell (j:=2) (by simp)
    have y3:=HC4.out.cell (j:=3) (by simp)
    simp only [gE0,gE1] at y0 y1 y2 y3
    have o0:=HO4.out.cell (j:=0) (by simp)
    have o1:=HO4.out.cell (j:=1) (by simp)
    have o2:=HO4.out.cell (j:=2) (by simp)
    have o3:=HO4.out.cell (j:=3) (by simp)
    simp only [gE0,gE1] at o0 o1 o2 o3
    have f0:=HO4.out.frozen 0
    have f1:=HO4.out.frozen 1
    have f2:=HO4.out.frozen 2
    have f3:=HO4.out.frozen 3
    go_wp2_with fail
    obtain ⟨k1,k2,k3,k4⟩:=storeO (d0:=.int .u8 q1) (d1:=.int .i64 m1) (d2:=.string z1) (d3:=.slice b1 l2 c2) HK4.out HR4.out HO4.out (GX.mono (fun k _ h=>.inl h) HX4.out) hRw
    refine ret_guard (fn:=Tryz.f159) rfl (g:=w.heap.size) (cs:=[.int .u8 q1,.int .i64 m1,.string z1,.slice b1 l2 c2]) rfl rfl rfl k3 ?_
    exact ⟨k1,_,_,_,rfl,k4,k2,part_none HN0.out HX0.out (fun st hst=>by unfold kRel;rw [if_neg (HNO11.out st hst),if_neg (HNO12.out st hst)])⟩
end Go.Proofs.YtfbbkmdhnkmonaaGreatDoor
