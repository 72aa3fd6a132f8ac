/- Proved, each under the conditions that it names: package guard: made, at some kinds. -/
import Derived.Test.YtfbbkmdhnkmonaaGreatDoorT07
set_option maxRecDepth 100000
set_option maxHeartbeats 32000000
namespace Go.Proofs.YtfbbkmdhnkmonaaGreatDoor
open Go.RowKit
theorem made_c4 {d:Nat} (ih:MadeIH d) (g:GD) (cs:List Value) (w:World) (hd:g.deep<=d+1) (hr:g.inR) (hz:g.size<=1000000) (h:GIn w g cs) (hC:∀k n s l,g=.node k n s l->k=4):Calls Tryz.prog 119 #[.agg cs.toArray] w (MadeEnd g w):=by
 have HIH:=hid ih
 obtain ⟨k,n,sx,a,c,b,off,heg,rfl,hl,-,hb,hk⟩:=h.kid
 have HK:=hid hk
 have hkids:∀x∈g.kids,x.deep<=d/\x.inR/\x.size<=1000000:=fun x hx=>by
  have h1:=deeps_mem hx
  have h2:=sizes_mem hx
  have h3:=g.deep_eq
  rw [heg] at hr hz
  simp only [GD.inR,GD.size] at hr hz
  exact ⟨by omega,inRs_mem hx hr.2,by omega⟩
 have hlz:g.kids.length<=1000000:=by
  rw [heg] at hz
  simp only [GD.size] at hz
  have:=sizes_len g.kids
  omega
 have hnr:n<=9223372036854775807:=by
  rw [heg] at hr
  simp only [GD.inR] at hr
  exact hr.1.2
 have HKI:=hid hkids
 have HEG:=hid heg
 have HKK:=hid (hC k n sx g.kids heg)
 have HNR:=hid hnr
 have HSZ:Hid (sx.size<=1000000):=by
  show _<=_
  rw [heg] at hz
  simp only [GD.size] at hz
  omega
 obtain ⟨l,hl'⟩:∃l,g.kids.length=l:=⟨_,rfl⟩
 rw [hl'] at hb hl hlz ⊢
 have HL:=hid hl'
 obtain ⟨w1,hw1⟩:∃w1,w.alloc (.cells #[.int .u8 k,.int .i64 n,.string sx,.slice a l c] 80)=w1:=⟨_,rfl⟩
 have hb1:Below w.heap.size w w1:=hw1▸(Below.refl _ _).alloc (Nat.le_refl _) _
 have hx1:Arr w1 w.heap.size 80 [.int .u8 k,.int .i64 n,.string sx,.slice a l c]:=hw1▸Arr.new w [.int .u8 k,.int .i64 n,.string sx,.slice a l c] _
 have HB1:=hid hb1
 have HX1:=hid hx1
 have HW1:=hid hw1
 have x3:=hx1.cell (j:=3) (by simp)
 simp only [gE0,gE1] at x3
 clear hC ih hk hl' h hkids heg hnr hd hr hz hb1 hx1 hw1 hl
 go_enter Tryz.func119,Tryz.ntmps119
 go_upto_block 0 with fail
 rw [HW1.out]
 go_wp2_with fail
 clear x3
 go_loopw [4,15] (fun lv i wr=>∃(m:Nat) (va:Option Addr) (vc:Nat) (ts:List GT) (vs:List Value),m<=l/\lv=.slice va m vc/\i=.int .i64 (m:Int)/\Hid (KidsV g m ts vs)/\Hid (Own wr w1.heap.size 133 1 va vc m vs)/\Hid (Below w1.heap.size w1 wr)) (fun _ i _=>l-(intOf i).toNat)
 case atStart=>exact ⟨0,none,0,[],[],Nat.zero_le _,rfl,rfl,⟨rfl,rfl,rfl,by simp,fun j h=>absurd h (Nat.not_lt_zero _)⟩,Own.nil _ _ _ _,Below.refl _ _⟩
 obtain ⟨m,va,vc,ts,vs,hm,rfl,rfl,HKV,HO,HB⟩:=hrel
 have HBB:=hid (HB1.out.trans (HB.out.mono HB1.out.size))
 by_cases hml:m<l
 ·obtain ⟨rfl,hbl⟩:=hb (by omega)
  have i1:(m:Int)<(l:Int):=by omega
  have i2:(0:Int)<=(m:Int):=by omega
  have hmk:m<g.kids.length:=by rw [HL.out];exact hml
  obtain ⟨c0,c1,c2,c3,y0,y1,y2,y3,hgi⟩:=HK.out m hmk
  replace y0:=(HBB.out.cell (p:=⟨b,off+m*4,none⟩) hbl).trans y0
  replace y1:=(HBB.out.cell (p:=⟨b,off+m*4+1,none⟩) hbl).trans y1
  replace y2:=(HBB.out.cell (p:=⟨b,off+m*4+2,none⟩) hbl).trans y2
  replace y3:=(HBB.out.cell (p:=⟨b,off+m*4+3,none⟩) hbl).trans y3
  obtain ⟨k2,n2,s2,a2,l2,cc2,he⟩:=hgi.four
  simp only [List.cons.injEq,and_true] at he
  obtain ⟨rfl,rfl,rfl,rfl⟩:=he
  obtain ⟨q1,q2,q3⟩:=HKI.out _ (List.getElem_mem hmk)
  obtain ⟨w2,hw2⟩:∃w2,wr.alloc (.cells #[.int .u8 k2,.int .i64 n2,.string s2,.slice a2 l2 cc2] 80)=w2:=⟨_,rfl⟩
  have hb2:Below w1.heap.size w1 w2:=hw2▸HB.out.alloc HB.out.size _
  have ho2:Own w2 w1.heap.size 133 1 va vc m vs:=hw2▸HO.out.alloc _
  have ha2:Arr w2 wr.heap.size 80 [.int .u8 k2,.int .i64 n2,.string s2,.slice a2 l2 cc2]:=hw2▸Arr.new wr [.int .u8 k2,.int .i64 n2,.string s2,.slice a2 l2 cc2] _
  obtain ⟨u0,u1,u2,u3⟩:=box4 ha2 (Below.refl _ _)
  have HIH2:=hid (HIH.out g.kids[m] _ w2 q1 q2 q3 (hgi.keepB (HB1.out.trans (hb2.mono HB1.out.size))))
  have HB2:=hid hb2
  have HO2:=hid ho2
  have HW2:=hid hw2
  have wr1:IntKind.i64.wrap ((m:Int)+1)=(m:Int)+1:=wrap_i64 (by omega) (by omega)
  clear hgi q1 q2 q3 hb2 ho2 hw2 ha2
  go_upto_region 5 with fail
  rw [HW2.out]
  go_wp2_with fail
  refine HIH2.out.mono ?_
  rintro e w3 ⟨hb3,v,r,rfl,hr1,hr2⟩
  have HB3:=hid (HB2.out.trans (hb3.mono HB2.out.size))
  have HO3:=hid (HO2.out.below hb3 (Nat.le_refl _))
  clear hb3 HIH2 u0 u1 u2 u3
  cases r with
  | false =>
   have HNO:=hid (kids_no hmk (fun h=>absurd (hr2 h) (by decide)))
   clear hr1 hr2
   go_wp2_with fail
   go_ret2
   exact ⟨HB1.out.trans (HB3.out.mono HB1.out.size),_,_,rfl,fun h=>absurd h (by decide),fun h=>absurd h HNO.out⟩
  | true =>
   obtain ⟨t,ht1,ht2,ht3⟩:=hr1 rfl
   have HKV2:=hid (HKV.out.snoc hmk ht1 ht2 ht3)
   obtain ⟨vT,vp,rfl⟩:=ht3.iface
   have hv1:=ht3.one
   obtain ⟨w4,hw4⟩:∃w4,w3.alloc (.cells #[.iface vT vp] 133)=w4:=⟨_,rfl⟩
   have hc4:w4.cell? ⟨w3.heap.size,0,none⟩=some (.iface vT vp):=hw4▸(Arr.new w3 [.iface vT vp] _).cell (j:=0) (by simp)
   have hb4:Below w1.heap.size w1 w4:=hw4▸HB3.out.alloc HB3.out.size _
   have ho4:Own w4 w1.heap.size 133 1 va vc m vs:=hw4▸HO3.out.alloc _
   obtain ⟨va',vc',w5,hap,ho5,hg5⟩:=Own.app elemNode 140 ho4 hb4.size (some ⟨w3.heap.size,0,none⟩) 1 1 w3.heap.size 0 [.iface vT vp] rfl (fun _=>rfl) (fun j u hj=>by
    cases j with
    | zero=>simp at hj;subst hj;exact hc4
    | succ j=>simp at hj) (fun u hu=>by rw [List.mem_singleton.1 hu];exact hv1) (by unfold maxLen;omega) (by omega)
   rw [<-hw4] at hap
   have HAP:=hid hap
   have HO5:=hid ho5
   have HB5:=hid (hb4.grown hg5 hb4.size (fun j hj=>by
    rcases ho4.block with ⟨h1,_⟩ | ⟨g,h1,h2,_⟩
    ·rw [h1] at hj;cases hj
    rw [h1] at hj;cases hj;exact h2))
   clear hr1 hr2 ht1 ht2 ht3 hv1 hc4 hb4 ho4 hap ho5 hg5 hw4 y0 y1 y2 y3 HIH HK HKI
   go_wp2_with (at_builtin;refine wpList_append_run (by rfl) (.tmp 26) (.tmp 28) 140 (by rfl) (by rfl) (by rfl) HAP.out ?_)
   refine ⟨⟨m+1,va',vc',_,_,by omega,rfl,rfl,HKV2,HO5,HB5⟩,by simp only [intOf];omega⟩
 obtain rfl:m=l:=by omega
 have i1:¬(m:Int)<(m:Int):=by omega
 obtain ⟨z0,z1,z2,z3⟩:=box4 HX1.out HB.out
 have hz0:w.heap.size<wr.heap.size:=Nat.lt_of_lt_of_le HX1.out.lt HB.out.size
 obtain ⟨I,eI⟩:∃I,(n==0)=I:=⟨_,rfl⟩
 obtain ⟨X,eX⟩:∃X,(sx.toList==[])=X:=⟨_,rfl⟩
 have hI:I=true↔n=0:=by rw [<-eI];exact beq_iff_eq
 have hX:X=true↔sx=⟨#[]⟩:=by
  rw [<-eX]
  rcases nz_list (s:=sx) with ⟨h1,h2⟩ | ⟨h1,h2⟩
  ·rw [h2];exact ⟨fun _=>h1,fun _=>rfl⟩
  rw [h2];exact ⟨fun h=>absurd h (by decide),fun h=>absurd h h1⟩
 have HI:=hid hI
 have HXX:=hid hX
 clear hI hX hb HIH HK HKI
 go_wp2_with fail
 go_quiet (fail)
 clear eI eX z0 z1 z2 z3 i1
 have HBd:=hid (below_drewN HB.out nq)
 have HOd:=hid (HO.out.drewN nq)
 clear HB HO HBB
 generalize wr.drewN nq=wd at *
 have hz1:w.heap.size<wd.heap.size:=Nat.lt_of_lt_of_le HX1.out.lt HBd.out.size
 have HEND:=hid (HB1.out.trans (HBd.out.mono HB1.out.size))
 obtain ⟨z0,z1,z2,z3⟩:=box4 HX1.out HBd.out
 have hk4:=HKK.out
 clear HKK
 subst hk4
 have HSW:Hid (∀W,Below wd.heap.size wd W->(Below wd.heap.size wd W/\W.cell? ⟨w.heap.size,0,none⟩=some (.int .u8 4)/\W.cell? ⟨w.heap.size,1,none⟩=some (.int .i64 n)/\W.cell? ⟨w.heap.size,2,none⟩=some (.string sx)/\W.cell? ⟨w.heap.size,3,none⟩=some (.slice a m c))):=fun W hb=>⟨hb,cellBelow2 hb z0,cellBelow2 hb z1,cellBelow2 hb z2,cellBelow2 hb z3⟩
 have hq0:=(Below.refl wd.heap.size wd).drew
 by_cases hm0:m=0
 rotate_left
 ·have e0:((m:Int)==0)=false:=by rw [beq_eq_false_iff_ne];omega
  have HM0:=hid hm0
  clear hm0
  go_wp2_with fail
  go_quiet (fail)
  go_wp2_with fail
  go_ret2
  exact ⟨below_drewN HEND.out nq,_,_,rfl,made_leafG HEG.out HL.out (by omega) a c ⟨fun h=>absurd h (by decide),fun h=>absurd h.1 HM0.out⟩⟩
 have e0:((m:Int)==0)=true:=by rw [beq_iff_eq];omega
 have HM0:=hid hm0
 clear hm0
 cases I
 ·go_wp2_with fail
  go_quiet (fail)
  go_wp2_with fail
  go_ret2
  exact ⟨below_drewN HEND.out nq,_,_,rfl,made_leafG HEG.out HL.out (by omega) a c ⟨fun h=>absurd h (by decide),fun h=>by rcases h.2 with ⟨q,_⟩ | ⟨q,_⟩ | ⟨_,q1,q2⟩ | ⟨q,_⟩<;>first | omega | exact absurd (HI.out.2 q1) (by decide)⟩⟩
 have HC:=hid (fun W=>quoted_walk sx W)
 obtain ⟨V,hV⟩:∃V,sx.data.toList.all quotB=V:=⟨_,rfl⟩
 rw [hV] at HC
 have HV:=hid hV
 clear hV
 go_wp2_with fail
 go_region_held3 (fun W=>Below wd.heap.size wd W/\W.cell? ⟨w.heap.size,0,none⟩=some (.int .u8 4)/\W.cell? ⟨w.heap.size,1,none⟩=some (.int .i64 n)/\W.cell? ⟨w.heap.size,2,none⟩=some (.string sx)/\W.cell? ⟨w.heap.size,3,none⟩=some (.slice a m c)) (first | exact HSW.out _ (Below.refl _ _) | exact HSW.out _ hq0 | exact HSW.out _ hq1)
  (first | (go_at_call 115;refine (HC.out _).mono ?_;rintro e W1 ⟨rfl,hb⟩;have hq1:=hq0.trans (hb.mono hq0.size);clear hb HC))
 have HQ:=hid (HEND.out.trans (hq1.mono HEND.out.size))
 go_wp2_with fail
 go_ret2
 refine ⟨HQ.out,_,_,rfl,?_⟩
 cases V
 ·exact made_leafG HEG.out HL.out (by omega) a c ⟨fun h=>absurd h (by decide),fun h=>by rcases h.2 with ⟨q,_⟩ | ⟨q,_⟩ | ⟨_,q1,q2⟩ | ⟨q,_⟩<;>first | omega | exact absurd (HV.out.symm.trans q2) (by decide)⟩
 exact made_leafG HEG.out HL.out (by omega) a c ⟨fun _=>⟨HM0.out,.inr (.inr (.inl ⟨rfl,HI.out.1 (by simp),HV.out⟩))⟩,fun _=>rfl⟩
theorem made_c5 {d:Nat} (ih:MadeIH d) (g:GD) (cs:List Value) (w:World) (hd:g.deep<=d+1) (hr:g.inR) (hz:g.size<=1000000) (h:GIn w g cs) (hC:∀k n s l,g=.node k n s l->k=5):Calls Tryz.prog 119 #[.agg cs.toArray] w (MadeEnd g w):=by
 have HIH:=hid ih
 obtain ⟨k,n,sx,a,c,b,off,heg,rfl,hl,-,hb,hk⟩:=h.kid
 have HK:=hid hk
 have hkids:∀x∈g.kids,x.deep<=d/\x.inR/\x.size<=1000000:=fun x hx=>by
  have h1:=deeps_mem hx
  have h2:=sizes_mem hx
  have h3:=g.deep_eq
  rw [heg] at hr hz
  simp only [GD.inR,GD.size] at hr hz
  exact ⟨by omega,inRs_mem hx hr.2,by omega⟩
 have hlz:g.kids.length<=1000000:=by
  rw [heg] at hz
  simp only [GD.size] at hz
  have:=sizes_len g.kids
  omega
 have hnr:n<=9223372036854775807:=by
  rw [heg] at hr
  simp only [GD.inR] at hr
  exact hr.1.2
 have HKI:=hid hkids
 have HEG:=hid heg
 have HKK:=hid (hC k n sx g.kids heg)
 have HNR:=hid hnr
 have HSZ:Hid (sx.size<=1000000):=by
  show _<=_
  rw [heg] at hz
  simp only [GD.size] at hz
  omega
 obtain ⟨l,hl'⟩:∃l,g.kids.length=l:=⟨_,rfl⟩
 rw [hl'] at hb hl hlz ⊢
 have HL:=hid hl'
 obtain ⟨w1,hw1⟩:∃w1,w.alloc (.cells #[.int .u8 k,.int .i64 n,.string sx,.slice a l c] 80)=w1:=⟨_,rfl⟩
 have hb1:Below w.heap.size w w1:=hw1▸(Below.refl _ _).alloc (Nat.le_refl _) _
 have hx1:Arr w1 w.heap.size 80 [.int .u8 k,.int .i64 n,.string sx,.slice a l c]:=hw1▸Arr.new w [.int .u8 k,.int .i64 n,.string sx,.slice a l c] _
 have HB1:=hid hb1
 have HX1:=hid hx1
 have HW1:=hid hw1
 have x3:=hx1.cell (j:=3) (by simp)
 simp only [gE0,gE1] at x3
 clear hC ih hk hl' h hkids heg hnr hd hr hz hb1 hx1 hw1 hl
 go_enter Tryz.func119,Tryz.ntmps119
 go_upto_block 0 with fail
 rw [HW1.out]
 go_wp2_with fail
 clear x3
 go_loopw [4,15] (fun lv i wr=>∃(m:Nat) (va:Option Addr) (vc:Nat) (ts:List GT) (vs:List Value),m<=l/\lv=.slice va m vc/\i=.int .i64 (m:Int)/\Hid (KidsV g m ts vs)/\Hid (Own wr w1.heap.size 133 1 va vc m vs)/\Hid (Below w1.heap.size w1 wr)) (fun _ i _=>l-(intOf i).toNat)
 case atStart=>exact ⟨0,none,0,[],[],Nat.zero_le _,rfl,rfl,⟨rfl,rfl,rfl,by simp,fun j h=>absurd h (Nat.not_lt_zero _)⟩,Own.nil _ _ _ _,Below.refl _ _⟩
 obtain ⟨m,va,vc,ts,vs,hm,rfl,rfl,HKV,HO,HB⟩:=hrel
 have HBB:=hid (HB1.out.trans (HB.out.mono HB1.out.size))
 by_cases hml:m<l
 ·obtain ⟨rfl,hbl⟩:=hb (by omega)
  have i1:(m:Int)<(l:Int):=by omega
  have i2:(0:Int)<=(m:Int):=by omega
  have hmk:m<g.kids.length:=by rw [HL.out];exact hml
  obtain ⟨c0,c1,c2,c3,y0,y1,y2,y3,hgi⟩:=HK.out m hmk
  replace y0:=(HBB.out.cell (p:=⟨b,off+m*4,none⟩) hbl).trans y0
  replace y1:=(HBB.out.cell (p:=⟨b,off+m*4+1,none⟩) hbl).trans y1
  replace y2:=(HBB.out.cell (p:=⟨b,off+m*4+2,none⟩) hbl).trans y2
  replace y3:=(HBB.out.cell (p:=⟨b,off+m*4+3,none⟩) hbl).trans y3
  obtain ⟨k2,n2,s2,a2,l2,cc2,he⟩:=hgi.four
  simp only [List.cons.injEq,and_true] at he
  obtain ⟨rfl,rfl,rfl,rfl⟩:=he
  obtain ⟨q1,q2,q3⟩:=HKI.out _ (List.getElem_mem hmk)
  obtain ⟨w2,hw2⟩:∃w2,wr.alloc (.cells #[.int .u8 k2,.int .i64 n2,.string s2,.slice a2 l2 cc2] 80)=w2:=⟨_,rfl⟩
  have hb2:Below w1.heap.size w1 w2:=hw2▸HB.out.alloc HB.out.size _
  have ho2:Own w2 w1.heap.size 133 1 va vc m vs:=hw2▸HO.out.alloc _
  have ha2:Arr w2 wr.heap.size 80 [.int .u8 k2,.int .i64 n2,.string s2,.slice a2 l2 cc2]:=hw2▸Arr.new wr [.int .u8 k2,.int .i64 n2,.string s2,.slice a2 l2 cc2] _
  obtain ⟨u0,u1,u2,u3⟩:=box4 ha2 (Below.refl _ _)
  have HIH2:=hid (HIH.out g.kids[m] _ w2 q1 q2 q3 (hgi.keepB (HB1.out.trans (hb2.mono HB1.out.size))))
  have HB2:=hid hb2
  have HO2:=hid ho2
  have HW2:=hid hw2
  have wr1:IntKind.i64.wrap ((m:Int)+1)=(m:Int)+1:=wrap_i64 (by omega) (by omega)
  clear hgi q1 q2 q3 hb2 ho2 hw2 ha2
  go_upto_region 5 with fail
  rw [HW2.out]
  go_wp2_with fail
  refine HIH2.out.mono ?_
  rintro e w3 ⟨hb3,v,r,rfl,hr1,hr2⟩
  have HB3:=hid (HB2.out.trans (hb3.mono HB2.out.size))
  have HO3:=hid (HO2.out.below hb3 (Nat.le_refl _))
  clear hb3 HIH2 u0 u1 u2 u3
  cases r with
  | false =>
   have HNO:=hid (kids_no hmk (fun h=>absurd (hr2 h) (by decide)))
   clear hr1 hr2
   go_wp2_with fail
   go_ret2
   exact ⟨HB1.out.trans (HB3.out.mono HB1.out.size),_,_,rfl,fun h=>absurd h (by decide),fun h=>absurd h HNO.out⟩
  | true =>
   obtain ⟨t,ht1,ht2,ht3⟩:=hr1 rfl
   have HKV2:=hid (HKV.out.snoc hmk ht1 ht2 ht3)
   obtain ⟨vT,vp,rfl⟩:=ht3.iface
   have hv1:=ht3.one
   obtain ⟨w4,hw4⟩:∃w4,w3.alloc (.cells #[.iface vT vp] 133)=w4:=⟨_,rfl⟩
   have hc4:w4.cell? ⟨w3.heap.size,0,none⟩=some (.iface vT vp):=hw4▸(Arr.new w3 [.iface vT vp] _).cell (j:=0) (by simp)
   have hb4:Below w1.heap.size w1 w4:=hw4▸HB3.out.alloc HB3.out.size _
   have ho4:Own w4 w1.heap.size 133 1 va vc m vs:=hw4▸HO3.out.alloc _
   obtain ⟨va',vc',w5,hap,ho5,hg5⟩:=Own.app elemNode 140 ho4 hb4.size (some ⟨w3.heap.size,0,none⟩) 1 1 w3.heap.size 0 [.iface vT vp] rfl (fun _=>rfl) (fun j u hj=>by
    cases j with
    | zero=>simp at hj;subst hj;exact hc4
    | succ j=>simp at hj) (fun u hu=>by rw [List.mem_singleton.1 hu];exact hv1) (by unfold maxLen;omega) (by omega)
   rw [<-hw4] at hap
   have HAP:=hid hap
   have HO5:=hid ho5
   have HB5:=hid (hb4.grown hg5 hb4.size (fun j hj=>by
    rcases ho4.block with ⟨h1,_⟩ | ⟨g,h1,h2,_⟩
    ·rw [h1] at hj;cases hj
    rw [h1] at hj;cases hj;exact h2))
   clear hr1 hr2 ht1 ht2 ht3 hv1 hc4 hb4 ho4 hap ho5 hg5 hw4 y0 y1 y2 y3 HIH HK HKI
   go_wp2_with (at_builtin;refine wpList_append_run (by rfl) (.tmp 26) (.tmp 28) 140 (by rfl) (by rfl) (by rfl) HAP.out ?_)
   refine ⟨⟨m+1,va',vc',_,_,by omega,rfl,rfl,HKV2,HO5,HB5⟩,by simp only [intOf];omega⟩
 obtain rfl:m=l:=by omega
 have i1:¬(m:Int)<(m:Int):=by omega
 obtain ⟨z0,z1,z2,z3⟩:=box4 HX1.out HB.out
 have hz0:w.heap.size<wr.heap.size:=Nat.lt_of_lt_of_le HX1.out.lt HB.out.size
 obtain ⟨I,eI⟩:∃I,(n==0)=I:=⟨_,rfl⟩
 obtain ⟨X,eX⟩:∃X,(sx.toList==[])=X:=⟨_,rfl⟩
 have hI:I=true↔n=0:=by rw [<-eI];exact beq_iff_eq
 have hX:X=true↔sx=⟨#[]⟩:=by
  rw [<-eX]
  rcases nz_list (s:=sx) with ⟨h1,h2⟩ | ⟨h1,h2⟩
  ·rw [h2];exact ⟨fun _=>h1,fun _=>rfl⟩
  rw [h2];exact ⟨fun h=>absurd h (by decide),fun h=>absurd h h1⟩
 have HI:=hid hI
 have HXX:=hid hX
 clear hI hX hb HIH HK HKI
 go_wp2_with fail
 go_quiet (fail)
 clear eI eX z0 z1 z2 z3 i1
 have HBd:=hid (below_drewN HB.out nq)
 have HOd:=hid (HO.out.drewN nq)
 clear HB HO HBB
 generalize wr.drewN nq=wd at *
 have hz1:w.heap.size<wd.heap.size:=Nat.lt_of_lt_of_le HX1.out.lt HBd.out.size
 have HEND:=hid (HB1.out.trans (HBd.out.mono HB1.out.size))
 obtain ⟨z0,z1,z2,z3⟩:=box4 HX1.out HBd.out
 have hk5:=HKK.out
 clear HKK
 subst hk5
 have HSW:Hid (∀W,Below wd.heap.size wd W->(Below wd.heap.size wd W/\W.cell? ⟨w.heap.size,0,none⟩=some (.int .u8 5)/\W.cell? ⟨w.heap.size,1,none⟩=some (.int .i64 n)/\W.cell? ⟨w.heap.size,2,none⟩=some (.string sx)/\W.cell? ⟨w.heap.size,3,none⟩=some (.slice a m c))):=fun W hb=>⟨hb,cellBelow2 hb z0,cellBelow2 hb z1,cellBelow2 hb z2,cellBelow2 hb z3⟩
 have hq0:=(Below.refl wd.heap.size wd).drew
 by_cases hm0:m=0
 rotate_left
 ·have e0:((m:Int)==0)=false:=by rw [beq_eq_false_iff_ne];omega
  have HM0:=hid hm0
  clear hm0
  go_wp2_with fail
  go_quiet (fail)
  go_wp2_with fail
  go_ret2
  exact ⟨below_drewN HEND.out nq,_,_,rfl,made_leafG HEG.out HL.out (by omega) a c ⟨fun h=>absurd h (by decide),fun h=>absurd h.1 HM0.out⟩⟩
 have e0:((m:Int)==0)=true:=by rw [beq_iff_eq];omega
 have HM0:=hid hm0
 clear hm0
 cases I
 ·go_wp2_with fail
  go_quiet (fail)
  go_wp2_with fail
  go_ret2
  exact ⟨below_drewN HEND.out nq,_,_,rfl,made_leafG HEG.out HL.out (by omega) a c ⟨fun h=>absurd h (by decide),fun h=>by rcases h.2 with ⟨q,_⟩ | ⟨q,_⟩ | ⟨q,_⟩ | ⟨_,q1,q2⟩<;>first | omega | exact absurd (HI.out.2 q1) (by decide)⟩⟩
 have HC:=hid (fun W=>namedG_walk sx W)
 obtain ⟨V,hV⟩:∃V,namedG sx=V:=⟨_,rfl⟩
 rw [hV] at HC
 have HV:=hid hV
 clear hV
 go_wp2_with fail
 go_region_held3 (fun W=>Below wd.heap.size wd W/\W.cell? ⟨w.heap.size,0,none⟩=some (.int .u8 5)/\W.cell? ⟨w.heap.size,1,none⟩=some (.int .i64 n)/\W.cell? ⟨w.heap.size,2,none⟩=some (.string sx)/\W.cell? ⟨w.heap.size,3,none⟩=some (.slice a m c)) (first | exact HSW.out _ (Below.refl _ _) | exact HSW.out _ hq0 | exact HSW.out _ hq1)
  (first | (go_at_call 146;refine (HC.out _).mono ?_;rintro e W1 ⟨rfl,hb⟩;have hq1:=hq0.trans (hb.mono hq0.size);clear hb HC))
 have HQ:=hid (HEND.out.trans (hq1.mono HEND.out.size))
 go_wp2_with fail
 go_ret2
 refine ⟨HQ.out,_,_,rfl,?_⟩
 cases V
 ·exact made_leafG HEG.out HL.out (by omega) a c ⟨fun h=>absurd h (by decide),fun h=>by rcases h.2 with ⟨q,_⟩ | ⟨q,_⟩ | ⟨q,_⟩ | ⟨_,q1,q2⟩<;>first | omega | exact absurd (HV.out.symm.trans q2) (by decide)⟩
 exact made_leafG HEG.out HL.out (by omega) a c ⟨fun _=>⟨HM0.out,.inr (.inr (.inr ⟨.inl rfl,HI.out.1 (by simp),HV.out⟩))⟩,fun _=>rfl⟩
theorem made_c6 {d:Nat} (ih:MadeIH d) (g:GD) (cs:List Value) (w:World) (hd:g.deep<=d+1) (hr:g.inR) (hz:g.size<=1000000) (h:GIn w g cs) (hC:∀k n s l,g=.node k n s l->k=6):Calls Tryz.prog 119 #[.agg cs.toArray] w (MadeEnd g w):=by
 have HIH:=hid ih
 obtain ⟨k,n,sx,a,c,b,off,heg,rfl,hl,-,hb,hk⟩:=h.kid
 have HK:=hid hk
 have hkids:∀x∈g.kids,x.deep<=d/\x.inR/\x.size<=1000000:=fun x hx=>by
  have h1:=deeps_mem hx
  have h2:=sizes_mem hx
  have h3:=g.deep_eq
  rw [heg] at hr hz
  simp only [GD.inR,GD.size] at hr hz
  exact ⟨by omega,inRs_mem hx hr.2,by omega⟩
 have hlz:g.kids.length<=1000000:=by
  rw [heg] at hz
  simp only [GD.size] at hz
  have:=sizes_len g.kids
  omega
 have hnr:n<=9223372036854775807:=by
  rw [heg] at hr
  simp only [GD.inR] at hr
  exact hr.1.2
 have HKI:=hid hkids
 have HEG:=hid heg
 have HKK:=hid (hC k n sx g.kids heg)
 have HNR:=hid hnr
 have HSZ:Hid (sx.size<=1000000):=by
  show _<=_
  rw [heg] at hz
  simp only [GD.size] at hz
  omega
 obtain ⟨l,hl'⟩:∃l,g.kids.length=l:=⟨_,rfl⟩
 rw [hl'] at hb hl hlz ⊢
 have HL:=hid hl'
 obtain ⟨w1,hw1⟩:∃w1,w.alloc (.cells #[.int .u8 k,.int .i64 n,.string sx,.slice a l c] 80)=w1:=⟨_,rfl⟩
 have hb1:Below w.heap.size w w1:=hw1▸(Below.refl _ _).alloc (Nat.le_refl _) _
 have hx1:Arr w1 w.heap.size 80 [.int .u8 k,.int .i64 n,.string sx,.slice a l c]:=hw1▸Arr.new w [.int .u8 k,.int .i64 n,.string sx,.slice a l c] _
 have HB1:=hid hb1
 have HX1:=hid hx1
 have HW1:=hid hw1
 have x3:=hx1.cell (j:=3) (by simp)
 simp only [gE0,gE1] at x3
 clear hC ih hk hl' h hkids heg hnr hd hr hz hb1 hx1 hw1 hl
 go_enter Tryz.func119,Tryz.ntmps119
 go_upto_block 0 with fail
 rw [HW1.out]
 go_wp2_with fail
 clear x3
 go_loopw [4,15] (fun lv i wr=>∃(m:Nat) (va:Option Addr) (vc:Nat) (ts:List GT) (vs:List Value),m<=l/\lv=.slice va m vc/\i=.int .i64 (m:Int)/\Hid (KidsV g m ts vs)/\Hid (Own wr w1.heap.size 133 1 va vc m vs)/\Hid (Below w1.heap.size w1 wr)) (fun _ i _=>l-(intOf i).toNat)
 case atStart=>exact ⟨0,none,0,[],[],Nat.zero_le _,rfl,rfl,⟨rfl,rfl,rfl,by simp,fun j h=>absurd h (Nat.not_lt_zero _)⟩,Own.nil _ _ _ _,Below.refl _ _⟩
 obtain ⟨m,va,vc,ts,vs,hm,rfl,rfl,HKV,HO,HB⟩:=hrel
 have HBB:=hid (HB1.out.trans (HB.out.mono HB1.out.size))
 by_cases hml:m<l
 ·obtain ⟨rfl,hbl⟩:=hb (by omega)
  have i1:(m:Int)<(l:Int):=by omega
  have i2:(0:Int)<=(m:Int):=by omega
  have hmk:m<g.kids.length:=by rw [HL.out];exact hml
  obtain ⟨c0,c1,c2,c3,y0,y1,y2,y3,hgi⟩:=HK.out m hmk
  replace y0:=(HBB.out.cell (p:=⟨b,off+m*4,none⟩) hbl).trans y0
  replace y1:=(HBB.out.cell (p:=⟨b,off+m*4+1,none⟩) hbl).trans y1
  replace y2:=(HBB.out.cell (p:=⟨b,off+m*4+2,none⟩) hbl).trans y2
  replace y3:=(HBB.out.cell (p:=⟨b,off+m*4+3,none⟩) hbl).trans y3
  obtain ⟨k2,n2,s2,a2,l2,cc2,he⟩:=hgi.four
  simp only [List.cons.injEq,and_true] at he
  obtain ⟨rfl,rfl,rfl,rfl⟩:=he
  obtain ⟨q1,q2,q3⟩:=HKI.out _ (List.getElem_mem hmk)
  obtain ⟨w2,hw2⟩:∃w2,wr.alloc (.cells #[.int .u8 k2,.int .i64 n2,.string s2,.slice a2 l2 cc2] 80)=w2:=⟨_,rfl⟩
  have hb2:Below w1.heap.size w1 w2:=hw2▸HB.out.alloc HB.out.size _
  have ho2:Own w2 w1.heap.size 133 1 va vc m vs:=hw2▸HO.out.alloc _
  have ha2:Arr w2 wr.heap.size 80 [.int .u8 k2,.int .i64 n2,.string s2,.slice a2 l2 cc2]:=hw2▸Arr.new wr [.int .u8 k2,.int .i64 n2,.string s2,.slice a2 l2 cc2] _
  obtain ⟨u0,u1,u2,u3⟩:=box4 ha2 (Below.refl _ _)
  have HIH2:=hid (HIH.out g.kids[m] _ w2 q1 q2 q3 (hgi.keepB (HB1.out.trans (hb2.mono HB1.out.size))))
  have HB2:=hid hb2
  have HO2:=hid ho2
  have HW2:=hid hw2
  have wr1:IntKind.i64.wrap ((m:Int)+1)=(m:Int)+1:=wrap_i64 (by omega) (by omega)
  clear hgi q1 q2 q3 hb2 ho2 hw2 ha2
  go_upto_region 5 with fail
  rw [HW2.out]
  go_wp2_with fail
  refine HIH2.out.mono ?_
  rintro e w3 ⟨hb3,v,r,rfl,hr1,hr2⟩
  have HB3:=hid (HB2.out.trans (hb3.mono HB2.out.size))
  have HO3:=hid (HO2.out.below hb3 (Nat.le_refl _))
  clear hb3 HIH2 u0 u1 u2 u3
  cases r with
  | false =>
   have HNO:=hid (kids_no hmk (fun h=>absurd (hr2 h) (by decide)))
   clear hr1 hr2
   go_wp2_with fail
   go_ret2
   exact ⟨HB1.out.trans (HB3.out.mono HB1.out.size),_,_,rfl,fun h=>absurd h (by decide),fun h=>absurd h HNO.out⟩
  | true =>
   obtain ⟨t,ht1,ht2,ht3⟩:=hr1 rfl
   have HKV2:=hid (HKV.out.snoc hmk ht1 ht2 ht3)
   obtain ⟨vT,vp,rfl⟩:=ht3.iface
   have hv1:=ht3.one
   obtain ⟨w4,hw4⟩:∃w4,w3.alloc (.cells #[.iface vT vp] 133)=w4:=⟨_,rfl⟩
   have hc4:w4.cell? ⟨w3.heap.size,0,none⟩=some (.iface vT vp):=hw4▸(Arr.new w3 [.iface vT vp] _).cell (j:=0) (by simp)
   have hb4:Below w1.heap.size w1 w4:=hw4▸HB3.out.alloc HB3.out.size _
   have ho4:Own w4 w1.heap.size 133 1 va vc m vs:=hw4▸HO3.out.alloc _
   obtain ⟨va',vc',w5,hap,ho5,hg5⟩:=Own.app elemNode 140 ho4 hb4.size (some ⟨w3.heap.size,0,none⟩) 1 1 w3.heap.size 0 [.iface vT vp] rfl (fun _=>rfl) (fun j u hj=>by
    cases j with
    | zero=>simp at hj;subst hj;exact hc4
    | succ j=>simp at hj) (fun u hu=>by rw [List.mem_singleton.1 hu];exact hv1) (by unfold maxLen;omega) (by omega)
   rw [<-hw4] at hap
   have HAP:=hid hap
   have HO5:=hid ho5
   have HB5:=hid (hb4.grown hg5 hb4.size (fun j hj=>by
    rcases ho4.block with ⟨h1,_⟩ | ⟨g,h1,h2,_⟩
    ·rw [h1] at hj;cases hj
    rw [h1] at hj;cases hj;exact h2))
   clear hr1 hr2 ht1 ht2 ht3 hv1 hc4 hb4 ho4 hap ho5 hg5 hw4 y0 y1 y2 y3 HIH HK HKI
   go_wp2_with (at_builtin;refine wpList_append_run (by rfl) (.tmp 26) (.tmp 28) 140 (by rfl) (by rfl) (by rfl) HAP.out ?_)
   refine ⟨⟨m+1,va',vc',_,_,by omega,rfl,rfl,HKV2,HO5,HB5⟩,by simp only [intOf];omega⟩
 obtain rfl:m=l:=by omega
 have i1:¬(m:Int)<(m:Int):=by omega
 obtain ⟨z0,z1,z2,z3⟩:=box4 HX1.out HB.out
 have hz0:w.heap.size<wr.heap.size:=Nat.lt_of_lt_of_le HX1.out.lt HB.out.size
 obtain ⟨I,eI⟩:∃I,(n==0)=I:=⟨_,rfl⟩
 obtain ⟨X,eX⟩:∃X,(sx.toList==[])=X:=⟨_,rfl⟩
 have hI:I=true↔n=0:=by rw [<-eI];exact beq_iff_eq
 have hX:X=true↔sx=⟨#[]⟩:=by
  rw [<-eX]
  rcases nz_list (s:=sx) with ⟨h1,h2⟩ | ⟨h1,h2⟩
  ·rw [h2];exact ⟨fun _=>h1,fun _=>rfl⟩
  rw [h2];exact ⟨fun h=>absurd h (by decide),fun h=>absurd h h1⟩
 have HI:=hid hI
 have HXX:=hid hX
 clear hI hX hb HIH HK HKI
 go_wp2_with fail
 go_quiet (fail)
 clear eI eX z0 z1 z2 z3 i1
 have HBd:=hid (below_drewN HB.out nq)
 have HOd:=hid (HO.out.drewN nq)
 clear HB HO HBB
 generalize wr.drewN nq=wd at *
 have hz1:w.heap.size<wd.heap.size:=Nat.lt_of_lt_of_le HX1.out.lt HBd.out.size
 have HEND:=hid (HB1.out.trans (HBd.out.mono HB1.out.size))
 obtain ⟨z0,z1,z2,z3⟩:=box4 HX1.out HBd.out
 have hk6:=HKK.out
 clear HKK
 subst hk6
 have HSW:Hid (∀W,Below wd.heap.size wd W->(Below wd.heap.size wd W/\W.cell? ⟨w.heap.size,0,none⟩=some (.int .u8 6)/\W.cell? ⟨w.heap.size,1,none⟩=some (.int .i64 n)/\W.cell? ⟨w.heap.size,2,none⟩=some (.string sx)/\W.cell? ⟨w.heap.size,3,none⟩=some (.slice a m c))):=fun W hb=>⟨hb,cellBelow2 hb z0,cellBelow2 hb z1,cellBelow2 hb z2,cellBelow2 hb z3⟩
 have hq0:=(Below.refl wd.heap.size wd).drew
 by_cases hm0:m=0
 rotate_left
 ·have e0:((m:Int)==0)=false:=by rw [beq_eq_false_iff_ne];omega
  have HM0:=hid hm0
  clear hm0
  go_wp2_with fail
  go_quiet (fail)
  go_wp2_with fail
  go_ret2
  exact ⟨below_drewN HEND.out nq,_,_,rfl,made_leafG HEG.out HL.out (by omega) a c ⟨fun h=>absurd h (by decide),fun h=>absurd h.1 HM0.out⟩⟩
 have e0:((m:Int)==0)=true:=by rw [beq_iff_eq];omega
 have HM0:=hid hm0
 clear hm0
 cases I
 ·go_wp2_with fail
  go_quiet (fail)
  go_wp2_with fail
  go_ret2
  exact ⟨below_drewN HEND.out nq,_,_,rfl,made_leafG HEG.out HL.out (by omega) a c ⟨fun h=>absurd h (by decide),fun h=>by rcases h.2 with ⟨q,_⟩ | ⟨q,_⟩ | ⟨q,_⟩ | ⟨_,q1,q2⟩<;>first | omega | exact absurd (HI.out.2 q1) (by decide)⟩⟩
 have HC:=hid (fun W=>namedG_walk sx W)
 obtain ⟨V,hV⟩:∃V,namedG sx=V:=⟨_,rfl⟩
 rw [hV] at HC
 have HV:=hid hV
 clear hV
 go_wp2_with fail
 go_region_held3 (fun W=>Below wd.heap.size wd W/\W.cell? ⟨w.heap.size,0,none⟩=some (.int .u8 6)/\W.cell? ⟨w.heap.size,1,none⟩=some (.int .i64 n)/\W.cell? ⟨w.heap.size,2,none⟩=some (.string sx)/\W.cell? ⟨w.heap.size,3,none⟩=some (.slice a m c)) (first | exact HSW.out _ (Below.refl _ _) | exact HSW.out _ hq0 | exact HSW.out _ hq1)
  (first | (go_at_call 146;refine (HC.out _).mono ?_;rintro e W1 ⟨rfl,hb⟩;have hq1:=hq0.trans (hb.mono hq0.size);clear hb HC))
 have HQ:=hid (HEND.out.trans (hq1.mono HEND.out.size))
 go_wp2_with fail
 go_ret2
 refine ⟨HQ.out,_,_,rfl,?_⟩
 cases V
 ·exact made_leafG HEG.out HL.out (by omega) a c ⟨fun h=>absurd h (by decide),fun h=>by rcases h.2 with ⟨q,_⟩ | ⟨q,_⟩ | ⟨q,_⟩ | ⟨_,q1,q2⟩<;>first | omega | exact absurd (HV.out.symm.trans q2) (by decide)⟩
 exact made_leafG HEG.out HL.out (by omega) a c ⟨fun _=>⟨HM0.out,.inr (.inr (.inr ⟨.inr (.inl rfl),HI.out.1 (by simp),HV.out⟩))⟩,fun _=>rfl⟩
theorem made_c7 {d:Nat} (ih:MadeIH d) (g:GD) (cs:List Value) (w:World) (hd:g.deep<=d+1) (hr:g.inR) (hz:g.size<=1000000) (h:GIn w g cs) (hC:∀k n s l,g=.node k n s l->k=7):Calls Tryz.prog 119 #[.agg cs.toArray] w (MadeEnd g w):=by
 have HIH:=hid ih
 obtain ⟨k,n,sx,a,c,b,off,heg,rfl,hl,-,hb,hk⟩:=h.kid
 have HK:=hid hk
 have hkids:∀x∈g.kids,x.deep<=d/\x.inR/\x.size<=1000000:=fun x hx=>by
  have h1:=deeps_mem hx
  have h2:=sizes_mem hx
  have h3:=g.deep_eq
  rw [heg] at hr hz
  simp only [GD.inR,GD.size] at hr hz
  exact ⟨by omega,inRs_mem hx hr.2,by omega⟩
 have hlz:g.kids.length<=1000000:=by
  rw [heg] at hz
  simp only [GD.size] at hz
  have:=sizes_len g.kids
  omega
 have hnr:n<=9223372036854775807:=by
  rw [heg] at hr
  simp only [GD.inR] at hr
  exact hr.1.2
 have HKI:=hid hkids
 have HEG:=hid heg
 have HKK:=hid (hC k n sx g.kids heg)
 have HNR:=hid hnr
 have HSZ:Hid (sx.size<=1000000):=by
  show _<=_
  rw [heg] at hz
  simp only [GD.size] at hz
  omega
 obtain ⟨l,hl'⟩:∃l,g.kids.length=l:=⟨_,rfl⟩
 rw [hl'] at hb hl hlz ⊢
 have HL:=hid hl'
 obtain ⟨w1,hw1⟩:∃w1,w.alloc (.cells #[.int .u8 k,.int .i64 n,.string sx,.slice a l c] 80)=w1:=⟨_,rfl⟩
 have hb1:Below w.heap.size w w1:=hw1▸(Below.refl _ _).alloc (Nat.le_refl _) _
 have hx1:Arr w1 w.heap.size 80 [.int .u8 k,.int .i64 n,.string sx,.slice a l c]:=hw1▸Arr.new w [.int .u8 k,.int .i64 n,.string sx,.slice a l c] _
 have HB1:=hid hb1
 have HX1:=hid hx1
 have HW1:=hid hw1
 have x3:=hx1.cell (j:=3) (by simp)
 simp only [gE0,gE1] at x3
 clear hC ih hk hl' h hkids heg hnr hd hr hz hb1 hx1 hw1 hl
 go_enter Tryz.func119,Tryz.ntmps119
 go_upto_block 0 with fail
 rw [HW1.out]
 go_wp2_with fail
 clear x3
 go_loopw [4,15] (fun lv i wr=>∃(m:Nat) (va:Option Addr) (vc:Nat) (ts:List GT) (vs:List Value),m<=l/\lv=.slice va m vc/\i=.int .i64 (m:Int)/\Hid (KidsV g m ts vs)/\Hid (Own wr w1.heap.size 133 1 va vc m vs)/\Hid (Below w1.heap.size w1 wr)) (fun _ i _=>l-(intOf i).toNat)
 case atStart=>exact ⟨0,none,0,[],[],Nat.zero_le _,rfl,rfl,⟨rfl,rfl,rfl,by simp,fun j h=>absurd h (Nat.not_lt_zero _)⟩,Own.nil _ _ _ _,Below.refl _ _⟩
 obtain ⟨m,va,vc,ts,vs,hm,rfl,rfl,HKV,HO,HB⟩:=hrel
 have HBB:=hid (HB1.out.trans (HB.out.mono HB1.out.size))
 by_cases hml:m<l
 ·obtain ⟨rfl,hbl⟩:=hb (by omega)
  have i1:(m:Int)<(l:Int):=by omega
  have i2:(0:Int)<=(m:Int):=by omega
  have hmk:m<g.kids.length:=by rw [HL.out];exact hml
  obtain ⟨c0,c1,c2,c3,y0,y1,y2,y3,hgi⟩:=HK.out m hmk
  replace y0:=(HBB.out.cell (p:=⟨b,off+m*4,none⟩) hbl).trans y0
  replace y1:=(HBB.out.cell (p:=⟨b,off+m*4+1,none⟩) hbl).trans y1
  replace y2:=(HBB.out.cell (p:=⟨b,off+m*4+2,none⟩) hbl).trans y2
  replace y3:=(HBB.out.cell (p:=⟨b,off+m*4+3,none⟩) hbl).trans y3
  obtain ⟨k2,n2,s2,a2,l2,cc2,he⟩:=hgi.four
  simp only [List.cons.injEq,and_true] at he
  obtain ⟨rfl,rfl,rfl,rfl⟩:=he
  obtain ⟨q1,q2,q3⟩:=HKI.out _ (List.getElem_mem hmk)
  obtain ⟨w2,hw2⟩:∃w2,wr.alloc (.cells #[.int .u8 k2,.int .i64 n2,.string s2,.slice a2 l2 cc2] 80)=w2:=⟨_,rfl⟩
  have hb2:Below w1.heap.size w1 w2:=hw2▸HB.out.alloc HB.out.size _
  have ho2:Own w2 w1.heap.size 133 1 va vc m vs:=hw2▸HO.out.alloc _
  have ha2:Arr w2 wr.heap.size 80 [.int .u8 k2,.int .i64 n2,.string s2,.slice a2 l2 cc2]:=hw2▸Arr.new wr [.int .u8 k2,.int .i64 n2,.string s2,.slice a2 l2 cc2] _
  obtain ⟨u0,u1,u2,u3⟩:=box4 ha2 (Below.refl _ _)
  have HIH2:=hid (HIH.out g.kids[m] _ w2 q1 q2 q3 (hgi.keepB (HB1.out.trans (hb2.mono HB1.out.size))))
  have HB2:=hid hb2
  have HO2:=hid ho2
  have HW2:=hid hw2
  have wr1:IntKind.i64.wrap ((m:Int)+1)=(m:Int)+1:=wrap_i64 (by omega) (by omega)
  clear hgi q1 q2 q3 hb2 ho2 hw2 ha2
  go_upto_region 5 with fail
  rw [HW2.out]
  go_wp2_with fail
  refine HIH2.out.mono ?_
  rintro e w3 ⟨hb3,v,r,rfl,hr1,hr2⟩
  have HB3:=hid (HB2.out.trans (hb3.mono HB2.out.size))
  have HO3:=hid (HO2.out.below hb3 (Nat.le_refl _))
  clear hb3 HIH2 u0 u1 u2 u3
  cases r with
  | false =>
   have HNO:=hid (kids_no hmk (fun h=>absurd (hr2 h) (by decide)))
   clear hr1 hr2
   go_wp2_with fail
   go_ret2
   exact ⟨HB1.out.trans (HB3.out.mono HB1.out.size),_,_,rfl,fun h=>absurd h (by decide),fun h=>absurd h HNO.out⟩
  | true =>
   obtain ⟨t,ht1,ht2,ht3⟩:=hr1 rfl
   have HKV2:=hid (HKV.out.snoc hmk ht1 ht2 ht3)
   obtain ⟨vT,vp,rfl⟩:=ht3.iface
   have hv1:=ht3.one
   obtain ⟨w4,hw4⟩:∃w4,w3.alloc (.cells #[.iface vT vp] 133)=w4:=⟨_,rfl⟩
   have hc4:w4.cell? ⟨w3.heap.size,0,none⟩=some (.iface vT vp):=hw4▸(Arr.new w3 [.iface vT vp] _).cell (j:=0) (by simp)
   have hb4:Below w1.heap.size w1 w4:=hw4▸HB3.out.alloc HB3.out.size _
   have ho4:Own w4 w1.heap.size 133 1 va vc m vs:=hw4▸HO3.out.alloc _
   obtain ⟨va',vc',w5,hap,ho5,hg5⟩:=Own.app elemNode 140 ho4 hb4.size (some ⟨w3.heap.size,0,none⟩) 1 1 w3.heap.size 0 [.iface vT vp] rfl (fun _=>rfl) (fun j u hj=>by
    cases j with
    | zero=>simp at hj;subst hj;exact hc4
    | succ j=>simp at hj) (fun u hu=>by rw [List.mem_singleton.1 hu];exact hv1) (by unfold maxLen;omega) (by omega)
   rw [<-hw4] at hap
   have HAP:=hid hap
   have HO5:=hid ho5
   have HB5:=hid (hb4.grown hg5 hb4.size (fun j hj=>by
    rcases ho4.block with ⟨h1,_⟩ | ⟨g,h1,h2,_⟩
    ·rw [h1] at hj;cases hj
    rw [h1] at hj;cases hj;exact h2))
   clear hr1 hr2 ht1 ht2 ht3 hv1 hc4 hb4 ho4 hap ho5 hg5 hw4 y0 y1 y2 y3 HIH HK HKI
   go_wp2_with (at_builtin;refine wpList_append_run (by rfl) (.tmp 26) (.tmp 28) 140 (by rfl) (by rfl) (by rfl) HAP.out ?_)
   refine ⟨⟨m+1,va',vc',_,_,by omega,rfl,rfl,HKV2,HO5,HB5⟩,by simp only [intOf];omega⟩
 obtain rfl:m=l:=by omega
 have i1:¬(m:Int)<(m:Int):=by omega
 obtain ⟨z0,z1,z2,z3⟩:=box4 HX1.out HB.out
 have hz0:w.heap.size<wr.heap.size:=Nat.lt_of_lt_of_le HX1.out.lt HB.out.size
 obtain ⟨I,eI⟩:∃I,(n==0)=I:=⟨_,rfl⟩
 obtain ⟨X,eX⟩:∃X,(sx.toList==[])=X:=⟨_,rfl⟩
 have hI:I=true↔n=0:=by rw [<-eI];exact beq_iff_eq
 have hX:X=true↔sx=⟨#[]⟩:=by
  rw [<-eX]
  rcases nz_list (s:=sx) with ⟨h1,h2⟩ | ⟨h1,h2⟩
  ·rw [h2];exact ⟨fun _=>h1,fun _=>rfl⟩
  rw [h2];exact ⟨fun h=>absurd h (by decide),fun h=>absurd h h1⟩
 have HI:=hid hI
 have HXX:=hid hX
 clear hI hX hb HIH HK HKI
 go_wp2_with fail
 go_quiet (fail)
 clear eI eX z0 z1 z2 z3 i1
 have HBd:=hid (below_drewN HB.out nq)
 have HOd:=hid (HO.out.drewN nq)
 clear HB HO HBB
 generalize wr.drewN nq=wd at *
 have hz1:w.heap.size<wd.heap.size:=Nat.lt_of_lt_of_le HX1.out.lt HBd.out.size
 have HEND:=hid (HB1.out.trans (HBd.out.mono HB1.out.size))
 obtain ⟨z0,z1,z2,z3⟩:=box4 HX1.out HBd.out
 have hk7:=HKK.out
 clear HKK
 subst hk7
 have HSW:Hid (∀W,Below wd.heap.size wd W->(Below wd.heap.size wd W/\W.cell? ⟨w.heap.size,0,none⟩=some (.int .u8 7)/\W.cell? ⟨w.heap.size,1,none⟩=some (.int .i64 n)/\W.cell? ⟨w.heap.size,2,none⟩=some (.string sx)/\W.cell? ⟨w.heap.size,3,none⟩=some (.slice a m c))):=fun W hb=>⟨hb,cellBelow2 hb z0,cellBelow2 hb z1,cellBelow2 hb z2,cellBelow2 hb z3⟩
 have hq0:=(Below.refl wd.heap.size wd).drew
 by_cases hm0:m=0
 rotate_left
 ·have e0:((m:Int)==0)=false:=by rw [beq_eq_false_iff_ne];omega
  have HM0:=hid hm0
  clear hm0
  go_wp2_with fail
  go_quiet (fail)
  go_wp2_with fail
  go_ret2
  exact ⟨below_drewN HEND.out nq,_,_,rfl,made_leafG HEG.out HL.out (by omega) a c ⟨fun h=>absurd h (by decide),fun h=>absurd h.1 HM0.out⟩⟩
 have e0:((m:Int)==0)=true:=by rw [beq_iff_eq];omega
 have HM0:=hid hm0
 clear hm0
 cases I
 ·go_wp2_with fail
  go_quiet (fail)
  go_wp2_with fail
  go_ret2
  exact ⟨below_drewN HEND.out nq,_,_,rfl,made_leafG HEG.out HL.out (by omega) a c ⟨fun h=>absurd h (by decide),fun h=>by rcases h.2 with ⟨q,_⟩ | ⟨q,_⟩ | ⟨q,_⟩ | ⟨_,q1,q2⟩<;>first | omega | exact absurd (HI.out.2 q1) (by decide)⟩⟩
 have HC:=hid (fun W=>namedG_walk sx W)
 obtain ⟨V,hV⟩:∃V,namedG sx=V:=⟨_,rfl⟩
 rw [hV] at HC
 have HV:=hid hV
 clear hV
 go_wp2_with fail
 go_region_held3 (fun W=>Below wd.heap.size wd W/\W.cell? ⟨w.heap.size,0,none⟩=some (.int .u8 7)/\W.cell? ⟨w.heap.size,1,none⟩=some (.int .i64 n)/\W.cell? ⟨w.heap.size,2,none⟩=some (.string sx)/\W.cell? ⟨w.heap.size,3,none⟩=some (.slice a m c)) (first | exact HSW.out _ (Below.refl _ _) | exact HSW.out _ hq0 | exact HSW.out _ hq1)
  (first | (go_at_call 146;refine (HC.out _).mono ?_;rintro e W1 ⟨rfl,hb⟩;have hq1:=hq0.trans (hb.mono hq0.size);clear hb HC))
 have HQ:=hid (HEND.out.trans (hq1.mono HEND.out.size))
 go_wp2_with fail
 go_ret2
 refine ⟨HQ.out,_,_,rfl,?_⟩
 cases V
 ·exact made_leafG HEG.out HL.out (by omega) a c ⟨fun h=>absurd h (by decide),fun h=>by rcases h.2 with ⟨q,_⟩ | ⟨q,_⟩ | ⟨q,_⟩ | ⟨_,q1,q2⟩<;>first | omega | exact absurd (HV.out.symm.trans q2) (by decide)⟩
 exact made_leafG HEG.out HL.out (by omega) a c ⟨fun _=>⟨HM0.out,.inr (.inr (.inr ⟨.inr (.inr rfl),HI.out.1 (by simp),HV.out⟩))⟩,fun _=>rfl⟩
theorem made_cother {d:Nat} (ih:MadeIH d) (g:GD) (cs:List Value) (w:World) (hd:g.deep<=d+1) (hr:g.inR) (hz:g.size<=1000000) (h:GIn w g cs) (hC:∀k n s l,g=.node k n s l->k=0\/15<k):Calls Tryz.prog 119 #[.agg cs.toArray] w (MadeEnd g w):=by
 have HIH:=hid ih
 obtain ⟨k,n,sx,a,c,b,off,heg,rfl,hl,-,hb,hk⟩:=h.kid
 have HK:=hid hk
 have hkids:∀x∈g.kids,x.deep<=d/\x.inR/\x.size<=1000000:=fun x hx=>by
  have h1:=deeps_mem hx
  have h2:=sizes_mem hx
  have h3:=g.deep_eq
  rw [heg] at hr hz
  simp only [GD.inR,GD.size] at hr hz
  exact ⟨by omega,inRs_mem hx hr.2,by omega⟩
 have hlz:g.kids.length<=1000000:=by
  rw [heg] at hz
  simp only [GD.size] at hz
  have:=sizes_len g.kids
  omega
 have hnr:n<=9223372036854775807:=by
  rw [heg] at hr
  simp only [GD.inR] at hr
  exact hr.1.2
 have HKI:=hid hkids
 have HEG:=hid heg
 have HKK:=hid (hC k n sx g.kids heg)
 have HNR:=hid hnr
 have HSZ:Hid (sx.size<=1000000):=by
  show _<=_
  rw [heg] at hz
  simp only [GD.size] at hz
  omega
 obtain ⟨l,hl'⟩:∃l,g.kids.length=l:=⟨_,rfl⟩
 rw [hl'] at hb hl hlz ⊢
 have HL:=hid hl'
 obtain ⟨w1,hw1⟩:∃w1,w.alloc (.cells #[.int .u8 k,.int .i64 n,.string sx,.slice a l c] 80)=w1:=⟨_,rfl⟩
 have hb1:Below w.heap.size w w1:=hw1▸(Below.refl _ _).alloc (Nat.le_refl _) _
 have hx1:Arr w1 w.heap.size 80 [.int .u8 k,.int .i64 n,.string sx,.slice a l c]:=hw1▸Arr.new w [.int .u8 k,.int .i64 n,.string sx,.slice a l c] _
 have HB1:=hid hb1
 have HX1:=hid hx1
 have HW1:=hid hw1
 have x3:=hx1.cell (j:=3) (by simp)
 simp only [gE0,gE1] at x3
 clear hC ih hk hl' h hkids heg hnr hd hr hz hb1 hx1 hw1 hl
 go_enter Tryz.func119,Tryz.ntmps119
 go_upto_block 0 with fail
 rw [HW1.out]
 go_wp2_with fail
 clear x3
 go_loopw [4,15] (fun lv i wr=>∃(m:Nat) (va:Option Addr) (vc:Nat) (ts:List GT) (vs:List Value),m<=l/\lv=.slice va m vc/\i=.int .i64 (m:Int)/\Hid (KidsV g m ts vs)/\Hid (Own wr w1.heap.size 133 1 va vc m vs)/\Hid (Below w1.heap.size w1 wr)) (fun _ i _=>l-(intOf i).toNat)
 case atStart=>exact ⟨0,none,0,[],[],Nat.zero_le _,rfl,rfl,⟨rfl,rfl,rfl,by simp,fun j h=>absurd h (Nat.not_lt_zero _)⟩,Own.nil _ _ _ _,Below.refl _ _⟩
 obtain ⟨m,va,vc,ts,vs,hm,rfl,rfl,HKV,HO,HB⟩:=hrel
 have HBB:=hid (HB1.out.trans (HB.out.mono HB1.out.size))
 by_cases hml:m<l
 ·obtain ⟨rfl,hbl⟩:=hb (by omega)
  have i1:(m:Int)<(l:Int):=by omega
  have i2:(0:Int)<=(m:Int):=by omega
  have hmk:m<g.kids.length:=by rw [HL.out];exact hml
  obtain ⟨c0,c1,c2,c3,y0,y1,y2,y3,hgi⟩:=HK.out m hmk
  replace y0:=(HBB.out.cell (p:=⟨b,off+m*4,none⟩) hbl).trans y0
  replace y1:=(HBB.out.cell (p:=⟨b,off+m*4+1,none⟩) hbl).trans y1
  replace y2:=(HBB.out.cell (p:=⟨b,off+m*4+2,none⟩) hbl).trans y2
  replace y3:=(HBB.out.cell (p:=⟨b,off+m*4+3,none⟩) hbl).trans y3
  obtain ⟨k2,n2,s2,a2,l2,cc2,he⟩:=hgi.four
  simp only [List.cons.injEq,and_true] at he
  obtain ⟨rfl,rfl,rfl,rfl⟩:=he
  obtain ⟨q1,q2,q3⟩:=HKI.out _ (List.getElem_mem hmk)
  obtain ⟨w2,hw2⟩:∃w2,wr.alloc (.cells #[.int .u8 k2,.int .i64 n2,.string s2,.slice a2 l2 cc2] 80)=w2:=⟨_,rfl⟩
  have hb2:Below w1.heap.size w1 w2:=hw2▸HB.out.alloc HB.out.size _
  have ho2:Own w2 w1.heap.size 133 1 va vc m vs:=hw2▸HO.out.alloc _
  have ha2:Arr w2 wr.heap.size 80 [.int .u8 k2,.int .i64 n2,.string s2,.slice a2 l2 cc2]:=hw2▸Arr.new wr [.int .u8 k2,.int .i64 n2,.string s2,.slice a2 l2 cc2] _
  obtain ⟨u0,u1,u2,u3⟩:=box4 ha2 (Below.refl _ _)
  have HIH2:=hid (HIH.out g.kids[m] _ w2 q1 q2 q3 (hgi.keepB (HB1.out.trans (hb2.mono HB1.out.size))))
  have HB2:=hid hb2
  have HO2:=hid ho2
  have HW2:=hid hw2
  have wr1:IntKind.i64.wrap ((m:Int)+1)=(m:Int)+1:=wrap_i64 (by omega) (by omega)
  clear hgi q1 q2 q3 hb2 ho2 hw2 ha2
  go_upto_region 5 with fail
  rw [HW2.out]
  go_wp2_with fail
  refine HIH2.out.mono ?_
  rintro e w3 ⟨hb3,v,r,rfl,hr1,hr2⟩
  have HB3:=hid (HB2.out.trans (hb3.mono HB2.out.size))
  have HO3:=hid (HO2.out.below hb3 (Nat.le_refl _))
  clear hb3 HIH2 u0 u1 u2 u3
  cases r with
  | false =>
   have HNO:=hid (kids_no hmk (fun h=>absurd (hr2 h) (by decide)))
   clear hr1 hr2
   go_wp2_with fail
   go_ret2
   exact ⟨HB1.out.trans (HB3.out.mono HB1.out.size),_,_,rfl,fun h=>absurd h (by decide),fun h=>absurd h HNO.out⟩
  | true =>
   obtain ⟨t,ht1,ht2,ht3⟩:=hr1 rfl
   have HKV2:=hid (HKV.out.snoc hmk ht1 ht2 ht3)
   obtain ⟨vT,vp,rfl⟩:=ht3.iface
   have hv1:=ht3.one
   obtain ⟨w4,hw4⟩:∃w4,w3.alloc (.cells #[.iface vT vp] 133)=w4:=⟨_,rfl⟩
   have hc4:w4.cell? ⟨w3.heap.size,0,none⟩=some (.iface vT vp):=hw4▸(Arr.new w3 [.iface vT vp] _).cell (j:=0) (by simp)
   have hb4:Below w1.heap.size w1 w4:=hw4▸HB3.out.alloc HB3.out.size _
   have ho4:Own w4 w1.heap.size 133 1 va vc m vs:=hw4▸HO3.out.alloc _
   obtain ⟨va',vc',w5,hap,ho5,hg5⟩:=Own.app elemNode 140 ho4 hb4.size (some ⟨w3.heap.size,0,none⟩) 1 1 w3.heap.size 0 [.iface vT vp] rfl (fun _=>rfl) (fun j u hj=>by
    cases j with
    | zero=>simp at hj;subst hj;exact hc4
    | succ j=>simp at hj) (fun u hu=>by rw [List.mem_singleton.1 hu];exact hv1) (by unfold maxLen;omega) (by omega)
   rw [<-hw4] at hap
   have HAP:=hid hap
   have HO5:=hid ho5
   have HB5:=hid (hb4.grown hg5 hb4.size (fun j hj=>by
    rcases ho4.block with ⟨h1,_⟩ | ⟨g,h1,h2,_⟩
    ·rw [h1] at hj;cases hj
    rw [h1] at hj;cases hj;exact h2))
   clear hr1 hr2 ht1 ht2 ht3 hv1 hc4 hb4 ho4 hap ho5 hg5 hw4 y0 y1 y2 y3 HIH HK HKI
   go_wp2_with (at_builtin;refine wpList_append_run (by rfl) (.tmp 26) (.tmp 28) 140 (by rfl) (by rfl) (by rfl) HAP.out ?_)
   refine ⟨⟨m+1,va',vc',_,_,by omega,rfl,rfl,HKV2,HO5,HB5⟩,by simp only [intOf];omega⟩
 obtain rfl:m=l:=by omega
 have i1:¬(m:Int)<(m:Int):=by omega
 obtain ⟨z0,z1,z2,z3⟩:=box4 HX1.out HB.out
 have hz0:w.heap.size<wr.heap.size:=Nat.lt_of_lt_of_le HX1.out.lt HB.out.size
 obtain ⟨I,eI⟩:∃I,(n==0)=I:=⟨_,rfl⟩
 obtain ⟨X,eX⟩:∃X,(sx.toList==[])=X:=⟨_,rfl⟩
 have hI:I=true↔n=0:=by rw [<-eI];exact beq_iff_eq
 have hX:X=true↔sx=⟨#[]⟩:=by
  rw [<-eX]
  rcases nz_list (s:=sx) with ⟨h1,h2⟩ | ⟨h1,h2⟩
  ·rw [h2];exact ⟨fun _=>h1,fun _=>rfl⟩
  rw [h2];exact ⟨fun h=>absurd h (by decide),fun h=>absurd h h1⟩
 have HI:=hid hI
 have HXX:=hid hX
 clear hI hX hb HIH HK HKI
 go_wp2_with fail
 go_quiet (fail)
 clear eI eX z0 z1 z2 z3 i1
 have HBd:=hid (below_drewN HB.out nq)
 have HOd:=hid (HO.out.drewN nq)
 clear HB HO HBB
 generalize wr.drewN nq=wd at *
 have hz1:w.heap.size<wd.heap.size:=Nat.lt_of_lt_of_le HX1.out.lt HBd.out.size
 have HEND:=hid (HB1.out.trans (HBd.out.mono HB1.out.size))
 obtain ⟨z0,z1,z2,z3⟩:=box4 HX1.out HBd.out
 have hko:=HKK.out
 clear HKK
 have n1:((k:Int)==1)=false:=by rw [beq_eq_false_iff_ne];omega
 have n2:((k:Int)==2)=false:=by rw [beq_eq_false_iff_ne];omega
 have n3:((k:Int)==3)=false:=by rw [beq_eq_false_iff_ne];omega
 have n4:((k:Int)==4)=false:=by rw [beq_eq_false_iff_ne];omega
 have n5:((k:Int)==5)=false:=by rw [beq_eq_false_iff_ne];omega
 have n6:((k:Int)==6)=false:=by rw [beq_eq_false_iff_ne];omega
 have n7:((k:Int)==7)=false:=by rw [beq_eq_false_iff_ne];omega
 have n8:((k:Int)==8)=false:=by rw [beq_eq_false_iff_ne];omega
 have HKO:Hid (¬(1<=k/\k<=7)/\k≠8/\¬(9<=k/\k<=15)):=by show _/\_;omega
 rcases (by omega:(k:Int)<9\/15<(k:Int)) with hlt | hgt
 ·have p1:decide (9<=(k:Int))=false:=decide_eq_false (by omega)
  clear hlt hko
  go_wp2_with fail
  go_ret2
  exact ⟨HEND.out,_,_,rfl,made_noneG HEG.out HL.out ⟨HKO.out.1,fun h=>absurd h.1 HKO.out.2.1,fun h=>absurd h.1 HKO.out.2.2⟩⟩
 have p1:decide (9<=(k:Int))=true:=decide_eq_true (by omega)
 have p2:decide ((k:Int)<=15)=false:=decide_eq_false (by omega)
 clear hgt hko
 go_wp2_with fail
 go_ret2
 exact ⟨HEND.out,_,_,rfl,made_noneG HEG.out HL.out ⟨HKO.out.1,fun h=>absurd h.1 HKO.out.2.1,fun h=>absurd h.1 HKO.out.2.2⟩⟩
theorem made_c8 {d:Nat} (ih:MadeIH d) (g:GD) (cs:List Value) (w:World) (hd:g.deep<=d+1) (hr:g.inR) (hz:g.size<=1000000) (h:GIn w g cs) (hC:∀k n s l,g=.node k n s l->k=8):Calls Tryz.prog 119 #[.agg cs.toArray] w (MadeEnd g w):=by
 have HIH:=hid ih
 obtain ⟨k,n,sx,a,c,b,off,heg,rfl,hl,-,hb,hk⟩:=h.kid
 have HK:=hid hk
 have hkids:∀x∈g.kids,x.deep<=d/\x.inR/\x.size<=1000000:=fun x hx=>by
  have h1:=deeps_mem hx
  have h2:=sizes_mem hx
  have h3:=g.deep_eq
  rw [heg] at hr hz
  simp only [GD.inR,GD.size] at hr hz
  exact ⟨by omega,inRs_mem hx hr.2,by omega⟩
 have hlz:g.kids.length<=1000000:=by
  rw [heg] at hz
  simp only [GD.size] at hz
  have:=sizes_len g.kids
  omega
 have hnr:n<=9223372036854775807:=by
  rw [heg] at hr
  simp only [GD.inR] at hr
  exact hr.1.2
 have HKI:=hid hkids
 have HEG:=hid heg
 have HKK:=hid (hC k n sx g.kids heg)
 have HNR:=hid hnr
 have HSZ:Hid (sx.size<=1000000):=by
  show _<=_
  rw [heg] at hz
  simp only [GD.size] at hz
  omega
 obtain ⟨l,hl'⟩:∃l,g.kids.length=l:=⟨_,rfl⟩
 rw [hl'] at hb hl hlz ⊢
 have HL:=hid hl'
 obtain ⟨w1,hw1⟩:∃w1,w.alloc (.cells #[.int .u8 k,.int .i64 n,.string sx,.slice a l c] 80)=w1:=⟨_,rfl⟩
 have hb1:Below w.heap.size w w1:=hw1▸(Below.refl _ _).alloc (Nat.le_refl _) _
 have hx1:Arr w1 w.heap.size 80 [.int .u8 k,.int .i64 n,.string sx,.slice a l c]:=hw1▸Arr.new w [.int .u8 k,.int .i64 n,.string sx,.slice a l c] _
 have HB1:=hid hb1
 have HX1:=hid hx1
 have HW1:=hid hw1
 have x3:=hx1.cell (j:=3) (by simp)
 simp only [gE0,gE1] at x3
 clear hC ih hk hl' h hkids heg hnr hd hr hz hb1 hx1 hw1 hl
 go_enter Tryz.func119,Tryz.ntmps119
 go_upto_block 0 with fail
 rw [HW1.out]
 go_wp2_with fail
 clear x3
 go_loopw [4,15] (fun lv i wr=>∃(m:Nat) (va:Option Addr) (vc:Nat) (ts:List GT) (vs:List Value),m<=l/\lv=.slice va m vc/\i=.int .i64 (m:Int)/\Hid (KidsV g m ts vs)/\Hid (Own wr w1.heap.size 133 1 va vc m vs)/\Hid (Below w1.heap.size w1 wr)) (fun _ i _=>l-(intOf i).toNat)
 case atStart=>exact ⟨0,none,0,[],[],Nat.zero_le _,rfl,rfl,⟨rfl,rfl,rfl,by simp,fun j h=>absurd h (Nat.not_lt_zero _)⟩,Own.nil _ _ _ _,Below.refl _ _⟩
 obtain ⟨m,va,vc,ts,vs,hm,rfl,rfl,HKV,HO,HB⟩:=hrel
 have HBB:=hid (HB1.out.trans (HB.out.mono HB1.out.size))
 by_cases hml:m<l
 ·obtain ⟨rfl,hbl⟩:=hb (by omega)
  have i1:(m:Int)<(l:Int):=by omega
  have i2:(0:Int)<=(m:Int):=by omega
  have hmk:m<g.kids.length:=by rw [HL.out];exact hml
  obtain ⟨c0,c1,c2,c3,y0,y1,y2,y3,hgi⟩:=HK.out m hmk
  replace y0:=(HBB.out.cell (p:=⟨b,off+m*4,none⟩) hbl).trans y0
  replace y1:=(HBB.out.cell (p:=⟨b,off+m*4+1,none⟩) hbl).trans y1
  replace y2:=(HBB.out.cell (p:=⟨b,off+m*4+2,none⟩) hbl).trans y2
  replace y3:=(HBB.out.cell (p:=⟨b,off+m*4+3,none⟩) hbl).trans y3
  obtain ⟨k2,n2,s2,a2,l2,cc2,he⟩:=hgi.four
  simp only [List.cons.injEq,and_true] at he
  obtain ⟨rfl,rfl,rfl,rfl⟩:=he
  obtain ⟨q1,q2,q3⟩:=HKI.out _ (List.getElem_mem hmk)
  obtain ⟨w2,hw2⟩:∃w2,wr.alloc (.cells #[.int .u8 k2,.int .i64 n2,.string s2,.slice a2 l2 cc2] 80)=w2:=⟨_,rfl⟩
  have hb2:Below w1.heap.size w1 w2:=hw2▸HB.out.alloc HB.out.size _
  have ho2:Own w2 w1.heap.size 133 1 va vc m vs:=hw2▸HO.out.alloc _
  have ha2:Arr w2 wr.heap.size 80 [.int .u8 k2,.int .i64 n2,.string s2,.slice a2 l2 cc2]:=hw2▸Arr.new wr [.int .u8 k2,.int .i64 n2,.string s2,.slice a2 l2 cc2] _
  obtain ⟨u0,u1,u2,u3⟩:=box4 ha2 (Below.refl _ _)
  have HIH2:=hid (HIH.out g.kids[m] _ w2 q1 q2 q3 (hgi.keepB (HB1.out.trans (hb2.mono HB1.out.size))))
  have HB2:=hid hb2
  have HO2:=hid ho2
  have HW2:=hid hw2
  have wr1:IntKind.i64.wrap ((m:Int)+1)=(m:Int)+1:=wrap_i64 (by omega) (by omega)
  clear hgi q1 q2 q3 hb2 ho2 hw2 ha2
  go_upto_region 5 with fail
  rw [HW2.out]
  go_wp2_with fail
  refine HIH2.out.mono ?_
  rintro e w3 ⟨hb3,v,r,rfl,hr1,hr2⟩
  have HB3:=hid (HB2.out.trans (hb3.mono HB2.out.size))
  have HO3:=hid (HO2.out.below hb3 (Nat.le_refl _))
  clear hb3 HIH2 u0 u1 u2 u3
  cases r with
  | false =>
   have HNO:=hid (kids_no hmk (fun h=>absurd (hr2 h) (by decide)))
   clear hr1 hr2
   go_wp2_with fail
   go_ret2
   exact ⟨HB1.out.trans (HB3.out.mono HB1.out.size),_,_,rfl,fun h=>absurd h (by decide),fun h=>absurd h HNO.out⟩
  | true =>
   obtain ⟨t,ht1,ht2,ht3⟩:=hr1 rfl
   have HKV2:=hid (HKV.out.snoc hmk ht1 ht2 ht3)
   obtain ⟨vT,vp,rfl⟩:=ht3.iface
   have hv1:=ht3.one
   obtain ⟨w4,hw4⟩:∃w4,w3.alloc (.cells #[.iface vT vp] 133)=w4:=⟨_,rfl⟩
   have hc4:w4.cell? ⟨w3.heap.size,0,none⟩=some (.iface vT vp):=hw4▸(Arr.new w3 [.iface vT vp] _).cell (j:=0) (by simp)
   have hb4:Below w1.heap.size w1 w4:=hw4▸HB3.out.alloc HB3.out.size _
   have ho4:Own w4 w1.heap.size 133 1 va vc m vs:=hw4▸HO3.out.alloc _
   obtain ⟨va',vc',w5,hap,ho5,hg5⟩:=Own.app elemNode 140 ho4 hb4.size (some ⟨w3.heap.size,0,none⟩) 1 1 w3.heap.size 0 [.iface vT vp] rfl (fun _=>rfl) (fun j u hj=>by
    cases j with
    | zero=>simp at hj;subst hj;exact hc4
    | succ j=>simp at hj) (fun u hu=>by rw [List.mem_singleton.1 hu];exact hv1) (by unfold maxLen;omega) (by omega)
   rw [<-hw4] at hap
   have HAP:=hid hap
   have HO5:=hid ho5
   have HB5:=hid (hb4.grown hg5 hb4.size (fun j hj=>by
    rcases ho4.block with ⟨h1,_⟩ | ⟨g,h1,h2,_⟩
    ·rw [h1] at hj;cases hj
    rw [h1] at hj;cases hj;exact h2))
   clear hr1 hr2 ht1 ht2 ht3 hv1 hc4 hb4 ho4 hap ho5 hg5 hw4 y0 y1 y2 y3 HIH HK HKI
   go_wp2_with (at_builtin;refine wpList_append_run (by rfl) (.tmp 26) (.tmp 28) 140 (by rfl) (by rfl) (by rfl) HAP.out ?_)
   refine ⟨⟨m+1,va',vc',_,_,by omega,rfl,rfl,HKV2,HO5,HB5⟩,by simp only [intOf];omega⟩
 obtain rfl:m=l:=by omega
 have i1:¬(m:Int)<(m:Int):=by omega
 obtain ⟨z0,z1,z2,z3⟩:=box4 HX1.out HB.out
 have hz0:w.heap.size<wr.heap.size:=Nat.lt_of_lt_of_le HX1.out.lt HB.out.size
 obtain ⟨I,eI⟩:∃I,(n==0)=I:=⟨_,rfl⟩
 obtain ⟨X,eX⟩:∃X,(sx.toList==[])=X:=⟨_,rfl⟩
 have hI:I=true↔n=0:=by rw [<-eI];exact beq_iff_eq
 have hX:X=true↔sx=⟨#[]⟩:=by
  rw [<-eX]
  rcases nz_list (s:=sx) with ⟨h1,h2⟩ | ⟨h1,h2⟩
  ·rw [h2];exact ⟨fun _=>h1,fun _=>rfl⟩
  rw [h2];exact ⟨fun h=>absurd h (by decide),fun h=>absurd h h1⟩
 have HI:=hid hI
 have HXX:=hid hX
 clear hI hX hb HIH HK HKI
 go_wp2_with fail
 go_quiet (fail)
 clear eI eX z0 z1 z2 z3 i1
 have HBd:=hid (below_drewN HB.out nq)
 have HOd:=hid (HO.out.drewN nq)
 clear HB HO HBB
 generalize wr.drewN nq=wd at *
 have hz1:w.heap.size<wd.heap.size:=Nat.lt_of_lt_of_le HX1.out.lt HBd.out.size
 have HEND:=hid (HB1.out.trans (HBd.out.mono HB1.out.size))
 obtain ⟨z0,z1,z2,z3⟩:=box4 HX1.out HBd.out
 have hk8:=HKK.out
 clear HKK
 subst hk8
 by_cases hm0:m=1
 rotate_left
 ·have e0:((m:Int)==1)=false:=by rw [beq_eq_false_iff_ne];omega
  have HM0:=hid hm0
  clear hm0
  go_wp2_with fail
  go_ret2
  exact ⟨HEND.out,_,_,rfl,made_noneG HEG.out HL.out ⟨by omega,fun h=>absurd h.2 HM0.out,by omega⟩⟩
 subst hm0
 obtain ⟨g0,rfl,-,-,hc0,-⟩:=HOd.out.cell (by decide)
 obtain ⟨v,hv⟩:∃v,vs=[v]:=List.length_eq_one_iff.1 HKV.out.2.1
 subst hv
 have y0:=hc0 0 v rfl
 obtain ⟨t,ht⟩:∃t,ts=[t]:=List.length_eq_one_iff.1 HKV.out.1
 subst ht
 obtain ⟨vT,vp,rfl⟩:=NodeV.iface (show NodeV t v from HKV.out.2.2.2.2 0 (by simp) (by simp))
 clear hc0
 cases I
 ·go_wp2_with fail
  go_ret2
  exact ⟨HEND.out,_,_,rfl,made_oneG HEG.out HL.out HKV.out (fun _=>rfl) ⟨fun h=>absurd h (by decide),fun h=>by first | exact absurd (HI.out.2 h.2.1) (by decide) | exact absurd (HXX.out.2 h.2.2) (by decide)⟩⟩
 cases X
 ·go_wp2_with fail
  go_ret2
  exact ⟨HEND.out,_,_,rfl,made_oneG HEG.out HL.out HKV.out (fun _=>rfl) ⟨fun h=>absurd h (by decide),fun h=>by first | exact absurd (HI.out.2 h.2.1) (by decide) | exact absurd (HXX.out.2 h.2.2) (by decide)⟩⟩
 go_wp2_with fail
 go_ret2
 exact ⟨HEND.out,_,_,rfl,made_oneG HEG.out HL.out HKV.out (fun _=>rfl) ⟨fun _=>⟨rfl,HI.out.1 (by simp),HXX.out.1 (by simp)⟩,fun _=>rfl⟩⟩
theorem made_cpair {d:Nat} (ih:MadeIH d) (g:GD) (cs:List Value) (w:World) (hd:g.deep<=d+1) (hr:g.inR) (hz:g.size<=1000000) (h:GIn w g cs) (hC:∀k n s l,g=.node k n s l->9<=k/\k<=15):Calls Tryz.prog 119 #[.agg cs.toArray] w (MadeEnd g w):=by
 have HIH:=hid ih
 obtain ⟨k,n,sx,a,c,b,off,heg,rfl,hl,-,hb,hk⟩:=h.kid
 have HK:=hid hk
 have hkids:∀x∈g.kids,x.deep<=d/\x.inR/\x.size<=1000000:=fun x hx=>by
  have h1:=deeps_mem hx
  have h2:=sizes_mem hx
  have h3:=g.deep_eq
  rw [heg] at hr hz
  simp only [GD.inR,GD.size] at hr hz
  exact ⟨by omega,inRs_mem hx hr.2,by omega⟩
 have hlz:g.kids.length<=1000000:=by
  rw [heg] at hz
  simp only [GD.size] at hz
  have:=sizes_len g.kids
  omega
 have hnr:n<=9223372036854775807:=by
  rw [heg] at hr
  simp only [GD.inR] at hr
  exact hr.1.2
 have HKI:=hid hkids
 have HEG:=hid heg
 have HKK:=hid (hC k n sx g.kids heg)
 have HNR:=hid hnr
 have HSZ:Hid (sx.size<=1000000):=by
  show _<=_
  rw [heg] at hz
  simp only [GD.size] at hz
  omega
 obtain ⟨l,hl'⟩:∃l,g.kids.length=l:=⟨_,rfl⟩
 rw [hl'] at hb hl hlz ⊢
 have HL:=hid hl'
 obtain ⟨w1,hw1⟩:∃w1,w.alloc (.cells #[.int .u8 k,.int .i64 n,.string sx,.slice a l c] 80)=w1:=⟨_,rfl⟩
 have hb1:Below w.heap.size w w1:=hw1▸(Below.refl _ _).alloc (Nat.le_refl _) _
 have hx1:Arr w1 w.heap.size 80 [.int .u8 k,.int .i64 n,.string sx,.slice a l c]:=hw1▸Arr.new w [.int .u8 k,.int .i64 n,.string sx,.slice a l c] _
 have HB1:=hid hb1
 have HX1:=hid hx1
 have HW1:=hid hw1
 have x3:=hx1.cell (j:=3) (by simp)
 simp only [gE0,gE1] at x3
 clear hC ih hk hl' h hkids heg hnr hd hr hz hb1 hx1 hw1 hl
 go_enter Tryz.func119,Tryz.ntmps119
 go_upto_block 0 with fail
 rw [HW1.out]
 go_wp2_with fail
 clear x3
 go_loopw [4,15] (fun lv i wr=>∃(m:Nat) (va:Option Addr) (vc:Nat) (ts:List GT) (vs:List Value),m<=l/\lv=.slice va m vc/\i=.int .i64 (m:Int)/\Hid (KidsV g m ts vs)/\Hid (Own wr w1.heap.size 133 1 va vc m vs)/\Hid (Below w1.heap.size w1 wr)) (fun _ i _=>l-(intOf i).toNat)
 case atStart=>exact ⟨0,none,0,[],[],Nat.zero_le _,rfl,rfl,⟨rfl,rfl,rfl,by simp,fun j h=>absurd h (Nat.not_lt_zero _)⟩,Own.nil _ _ _ _,Below.refl _ _⟩
 obtain ⟨m,va,vc,ts,vs,hm,rfl,rfl,HKV,HO,HB⟩:=hrel
 have HBB:=hid (HB1.out.trans (HB.out.mono HB1.out.size))
 by_cases hml:m<l
 ·obtain ⟨rfl,hbl⟩:=hb (by omega)
  have i1:(m:Int)<(l:Int):=by omega
  have i2:(0:Int)<=(m:Int):=by omega
  have hmk:m<g.kids.length:=by rw [HL.out];exact hml
  obtain ⟨c0,c1,c2,c3,y0,y1,y2,y3,hgi⟩:=HK.out m hmk
  replace y0:=(HBB.out.cell (p:=⟨b,off+m*4,none⟩) hbl).trans y0
  replace y1:=(HBB.out.cell (p:=⟨b,off+m*4+1,none⟩) hbl).trans y1
  replace y2:=(HBB.out.cell (p:=⟨b,off+m*4+2,none⟩) hbl).trans y2
  replace y3:=(HBB.out.cell (p:=⟨b,off+m*4+3,none⟩) hbl).trans y3
  obtain ⟨k2,n2,s2,a2,l2,cc2,he⟩:=hgi.four
  simp only [List.cons.injEq,and_true] at he
  obtain ⟨rfl,rfl,rfl,rfl⟩:=he
  obtain ⟨q1,q2,q3⟩:=HKI.out _ (List.getElem_mem hmk)
  obtain ⟨w2,hw2⟩:∃w2,wr.alloc (.cells #[.int .u8 k2,.int .i64 n2,.string s2,.slice a2 l2 cc2] 80)=w2:=⟨_,rfl⟩
  have hb2:Below w1.heap.size w1 w2:=hw2▸HB.out.alloc HB.out.size _
  have ho2:Own w2 w1.heap.size 133 1 va vc m vs:=hw2▸HO.out.alloc _
  have ha2:Arr w2 wr.heap.size 80 [.int .u8 k2,.int .i64 n2,.string s2,.slice a2 l2 cc2]:=hw2▸Arr.new wr [.int .u8 k2,.int .i64 n2,.string s2,.slice a2 l2 cc2] _
  obtain ⟨u0,u1,u2,u3⟩:=box4 ha2 (Below.refl _ _)
  have HIH2:=hid (HIH.out g.kids[m] _ w2 q1 q2 q3 (hgi.keepB (HB1.out.trans (hb2.mono HB1.out.size))))
  have HB2:=hid hb2
  have HO2:=hid ho2
  have HW2:=hid hw2
  have wr1:IntKind.i64.wrap ((m:Int)+1)=(m:Int)+1:=wrap_i64 (by omega) (by omega)
  clear hgi q1 q2 q3 hb2 ho2 hw2 ha2
  go_upto_region 5 with fail
  rw [HW2.out]
  go_wp2_with fail
  refine HIH2.out.mono ?_
  rintro e w3 ⟨hb3,v,r,rfl,hr1,hr2⟩
  have HB3:=hid (HB2.out.trans (hb3.mono HB2.out.size))
  have HO3:=hid (HO2.out.below hb3 (Nat.le_refl _))
  clear hb3 HIH2 u0 u1 u2 u3
  cases r with
  | false =>
   have HNO:=hid (kids_no hmk (fun h=>absurd (hr2 h) (by decide)))
   clear hr1 hr2
   go_wp2_with fail
   go_ret2
   exact ⟨HB1.out.trans (HB3.out.mono HB1.out.size),_,_,rfl,fun h=>absurd h (by decide),fun h=>absurd h HNO.out⟩
  | true =>
   obtain ⟨t,ht1,ht2,ht3⟩:=hr1 rfl
   have HKV2:=hid (HKV.out.snoc hmk ht1 ht2 ht3)
   obtain ⟨vT,vp,rfl⟩:=ht3.iface
   have hv1:=ht3.one
   obtain ⟨w4,hw4⟩:∃w4,w3.alloc (.cells #[.iface vT vp] 133)=w4:=⟨_,rfl⟩
   have hc4:w4.cell? ⟨w3.heap.size,0,none⟩=some (.iface vT vp):=hw4▸(Arr.new w3 [.iface vT vp] _).cell (j:=0) (by simp)
   have hb4:Below w1.heap.size w1 w4:=hw4▸HB3.out.alloc HB3.out.size _
   have ho4:Own w4 w1.heap.size 133 1 va vc m vs:=hw4▸HO3.out.alloc _
   obtain ⟨va',vc',w5,hap,ho5,hg5⟩:=Own.app elemNode 140 ho4 hb4.size (some ⟨w3.heap.size,0,none⟩) 1 1 w3.heap.size 0 [.iface vT vp] rfl (fun _=>rfl) (fun j u hj=>by
    cases j with
    | zero=>simp at hj;subst hj;exact hc4
    | succ j=>simp at hj) (fun u hu=>by rw [List.mem_singleton.1 hu];exact hv1) (by unfold maxLen;omega) (by omega)
   rw [<-hw4] at hap
   have HAP:=hid hap
   have HO5:=hid ho5
   have HB5:=hid (hb4.grown hg5 hb4.size (fun j hj=>by
    rcases ho4.block with ⟨h1,_⟩ | ⟨g,h1,h2,_⟩
    ·rw [h1] at hj;cases hj
    rw [h1] at hj;cases hj;exact h2))
   clear hr1 hr2 ht1 ht2 ht3 hv1 hc4 hb4 ho4 hap ho5 hg5 hw4 y0 y1 y2 y3 HIH HK HKI
   go_wp2_with (at_builtin;refine wpList_append_run (by rfl) (.tmp 26) (.tmp 28) 140 (by rfl) (by rfl) (by rfl) HAP.out ?_)
   refine ⟨⟨m+1,va',vc',_,_,by omega,rfl,rfl,HKV2,HO5,HB5⟩,by simp only [intOf];omega⟩
 obtain rfl:m=l:=by omega
 have i1:¬(m:Int)<(m:Int):=by omega
 obtain ⟨z0,z1,z2,z3⟩:=box4 HX1.out HB.out
 have hz0:w.heap.size<wr.heap.size:=Nat.lt_of_lt_of_le HX1.out.lt HB.out.size
 obtain ⟨I,eI⟩:∃I,(n==0)=I:=⟨_,rfl⟩
 obtain ⟨X,eX⟩:∃X,(sx.toList==[])=X:=⟨_,rfl⟩
 have hI:I=true↔n=0:=by rw [<-eI];exact beq_iff_eq
 have hX:X=true↔sx=⟨#[]⟩:=by
  rw [<-eX]
  rcases nz_list (s:=sx) with ⟨h1,h2⟩ | ⟨h1,h2⟩
  ·rw [h2];exact ⟨fun _=>h1,fun _=>rfl⟩
  rw [h2];exact ⟨fun h=>absurd h (by decide),fun h=>absurd h h1⟩
 have HI:=hid hI
 have HXX:=hid hX
 clear hI hX hb HIH HK HKI
 go_wp2_with fail
 go_quiet (fail)
 clear eI eX z0 z1 z2 z3 i1
 have HBd:=hid (below_drewN HB.out nq)
 have HOd:=hid (HO.out.drewN nq)
 clear HB HO HBB
 generalize wr.drewN nq=wd at *
 have hz1:w.heap.size<wd.heap.size:=Nat.lt_of_lt_of_le HX1.out.lt HBd.out.size
 have HEND:=hid (HB1.out.trans (HBd.out.mono HB1.out.size))
 obtain ⟨z0,z1,z2,z3⟩:=box4 HX1.out HBd.out
 have hkp:=HKK.out
 clear HKK
 have n1:((k:Int)==1)=false:=by rw [beq_eq_false_iff_ne];omega
 have n2:((k:Int)==2)=false:=by rw [beq_eq_false_iff_ne];omega
 have n3:((k:Int)==3)=false:=by rw [beq_eq_false_iff_ne];omega
 have n4:((k:Int)==4)=false:=by rw [beq_eq_false_iff_ne];omega
 have n5:((k:Int)==5)=false:=by rw [beq_eq_false_iff_ne];omega
 have n6:((k:Int)==6)=false:=by rw [beq_eq_false_iff_ne];omega
 have n7:((k:Int)==7)=false:=by rw [beq_eq_false_iff_ne];omega
 have n8:((k:Int)==8)=false:=by rw [beq_eq_false_iff_ne];omega
 have p1:decide (9<=(k:Int))=true:=decide_eq_true (by omega)
 have p2:decide ((k:Int)<=15)=true:=decide_eq_true (by omega)
 have HKP:=hid hkp
 clear hkp
 by_cases hm0:m=2
 rotate_left
 ·have e0:((m:Int)==2)=false:=by rw [beq_eq_false_iff_ne];omega
  have HM0:=hid hm0
  clear hm0
  go_wp2_with fail
  go_ret2
  exact ⟨HEND.out,_,_,rfl,made_noneG HEG.out HL.out ⟨by have:=HKP.out;omega,by have:=HKP.out;omega,fun h=>absurd h.2 HM0.out⟩⟩
 subst hm0
 obtain ⟨g0,rfl,-,-,hc0,-⟩:=HOd.out.cell (by decide)
 obtain ⟨v,u,hv⟩:=len_two HKV.out.2.1
 subst hv
 have y0:=hc0 0 v rfl
 have y1:=hc0 1 u rfl
 obtain ⟨t,t2,ht⟩:=len_two HKV.out.1
 subst ht
 obtain ⟨vT,vp,rfl⟩:=NodeV.iface (show NodeV t v from HKV.out.2.2.2.2 0 (by simp) (by simp))
 obtain ⟨uT,up,rfl⟩:=NodeV.iface (show NodeV t2 u from HKV.out.2.2.2.2 1 (by simp) (by simp))
 clear hc0
 cases I
 ·go_wp2_with fail
  go_quiet (fail)
  go_wp2_with fail
  go_ret2
  exact ⟨below_drewN HEND.out nq,_,_,rfl,made_pairG HEG.out HL.out HKP.out a c HKV.out (fun _=>⟨rfl,rfl⟩) ⟨fun h=>absurd h (by decide),fun h=>by first | exact absurd (HI.out.2 h.2.1) (by decide) | exact absurd (HXX.out.2 h.2.2) (by decide)⟩⟩
 cases X
 ·go_wp2_with fail
  go_quiet (fail)
  go_wp2_with fail
  go_ret2
  exact ⟨below_drewN HEND.out nq,_,_,rfl,made_pairG HEG.out HL.out HKP.out a c HKV.out (fun _=>⟨rfl,rfl⟩) ⟨fun h=>absurd h (by decide),fun h=>by first | exact absurd (HI.out.2 h.2.1) (by decide) | exact absurd (HXX.out.2 h.2.2) (by decide)⟩⟩
 go_wp2_with fail
 go_quiet (fail)
 go_wp2_with fail
 go_ret2
 exact ⟨below_drewN HEND.out nq,_,_,rfl,made_pairG HEG.out HL.out HKP.out a c HKV.out (fun _=>⟨rfl,rfl⟩) ⟨fun _=>⟨rfl,HI.out.1 (by simp),HXX.out.1 (by simp)⟩,fun _=>rfl⟩⟩
end Go.Proofs.YtfbbkmdhnkmonaaGreatDoor
