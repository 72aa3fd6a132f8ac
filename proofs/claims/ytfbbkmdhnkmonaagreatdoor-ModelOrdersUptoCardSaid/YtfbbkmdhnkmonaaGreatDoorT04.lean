/- Proved, each under the conditions that it names: package guard: part; package guard: atom. -/
import Derived.Test.YtfbbkmdhnkmonaaGreatDoorT03
set_option maxRecDepth 100000
set_option maxHeartbeats 32000000
namespace Go.Proofs.YtfbbkmdhnkmonaaGreatDoor
open Go.RowKit
abbrev relE:Ents:=putM (putM [] eqS (.int .u8 11)) ltS (.int .u8 12)
theorem relE_eq:relE=[(eqS,.int .u8 11),(ltS,.int .u8 12)]:=by
 unfold relE
 simp [putM,show ¬(eqS:ByteArray)=ltS by decide]
def seenI (rb:Nat) (w:World):Nat:=match w.heap[rb]? with
 | some (.mapIter _ _ seen _)=>seen.size
 | _=>0
theorem seenI_eq {w:World} {rb mb n:Nat} {seen:List Nat} (h:IterIs w rb mb n seen):seenI rb w=seen.length:=by
 rw [seenI,h.heap];simp
theorem seen_lt {seen:List Nat} {i:Nat} (hn:seen.Nodup) (hb:∀j∈seen,j<2) (hi:i<2) (hni:i∉seen):seen.length<2:=by
 match seen,hn,hb,hni with
 | [],_,_,_=>simp
 | [a],_,_,_=>simp
 | a :: b :: r,hn,hb,hni =>
  have h1:=hb a (by simp)
  have h2:=hb b (by simp)
  simp only [List.nodup_cons,List.mem_cons,not_or] at hn hni
  omega
structure PartSt (R:Nat) (s:ByteArray) (w:World) (gb mb rb z:Nat) (wr:World) (st1:GSt) (g:GT) (cs:List Value) (seen:List Nat):Prop where
 rd:RdIs R wr s st1
 keep:KeepR R w wr
 map:MapIs wr mb relE
 iter:IterIs wr rb mb relE.length seen
 out:Arr wr w.heap.size 80 zeroG
 cell:Arr wr gb 80 cs
 gis:GIs (fun k=>k<w.heap.size+1\/z<=k) wr g cs
theorem relE_kind:∀(i:Nat) (h:i<relE.length),∃kk:Nat,relE[i].2=.int .u8 (kk:Int)/\∀x,x=relE[i].1->kRel x=some kk:=by
 rw [relE_eq]
 intro i h
 match i,h with
 | 0,_=>exact ⟨11,rfl,fun x hx=>by subst hx;rfl⟩
 | 1,_=>exact ⟨12,rfl,fun x hx=>by subst hx;rfl⟩
theorem relE_none {x:ByteArray} {seen:List Nat} (hall:∀i,i<relE.length->i∈seen) (hun:∀i∈seen,∀h:i<relE.length,relE[i].1≠x):kRel x=none:=by
 rw [relE_eq] at hall hun
 have h0:=hun 0 (hall 0 (by simp)) (by simp)
 have h1:=hun 1 (hall 1 (by simp)) (by simp)
 simp only [gE0,gE1] at h0 h1
 rw [kRel,if_neg (Ne.symm h0),if_neg (Ne.symm h1)]
theorem relE_len:relE.length=2:=by rw [relE_eq];rfl
theorem PartSt.next {R:Nat} {s:ByteArray} {w:World} {gb mb rb z:Nat} {wr:World} {st1:GSt} {g:GT} {cs:List Value} {seen seen':List Nat} (h:PartSt R s w gb mb rb z wr st1 g cs seen) {w':World} (hg:wr.grownBy w' (some rb)) (hsz:w'.heap.size=wr.heap.size)
  (hm:MapIs w' mb relE) (hi:IterIs w' rb mb relE.length seen') (hR:R<w.heap.size) (hz:w.heap.size<z) (hgb:z<=gb) (hrb:gb<rb):PartSt R s w gb mb rb z w' st1 g cs seen':=by
 have hb:∀k,k<wr.heap.size->k≠rb->w'.heap[k]? = wr.heap[k]?:=fun k h1 h2=>hg.block k h1 (fun e=>h2 (Option.some.inj e))
 refine ⟨⟨(hb R (Arr.lt h.rd) (by omega)).trans h.rd.heap⟩,⟨hg.os.trans h.keep.os,hg.tape.trans h.keep.tape,hg.output.trans h.keep.output,by have:=h.keep.size;omega,fun k h1 h2=>(hb k (Nat.lt_of_lt_of_le h1 h.keep.size) (by omega)).trans (h.keep.block k h1 h2)⟩,
  hm,hi,⟨(hb _ h.out.lt (by omega)).trans h.out.heap⟩,⟨(hb _ h.cell.lt (by omega)).trans h.cell.heap⟩,h.gis.keep (fun k h1 h2=>hb k h1 (fun e=>h2 (.inr (by omega))))⟩
theorem part_sub {R:Nat} {s:ByteArray} {N:Nat} (hs:s.size<=17000) (hsum:SubC R s N 174 .sum) (hself:∀N',N' < N->SubC R s N' 145 .part):SubC R s N 145 .part:=by
 intro st w hM hg h hv
 have hRw:R<w.heap.size:=Arr.lt h
 have HA1:=hid (Arr.new w zeroG 80)
 have HB1:=hid ((Below.refl w.heap.size w).alloc (Nat.le_refl _) (.cells #[.int .u8 0,.int .i64 0,.string ⟨#[]⟩,.slice none 0 0] 80))
 have HR1:=hid (Arr.alloc h (.cells #[.int .u8 0,.int .i64 0,.string ⟨#[]⟩,.slice none 0 0] 80))
 have HV1:=hid (hv.keep (.of HB1.out))
 have HG0:=hid hg
 have HSUM:=hid hsum
 have HSELF:=hid hself
 have HV0:=hid hv
 have hz1:(w.alloc (.cells #[.int .u8 0,.int .i64 0,.string ⟨#[]⟩,.slice none 0 0] 80)).heap.size=w.heap.size+1:=size_alloc _ _
 clear hsum hself h hv hg
 by_cases hnot:st.now=notS
 ·have hIS:=is_yes R s st _ hs HG0.out.le HR1.out HV1.out
  rw [hnot] at hIS
  obtain ⟨X,hX⟩:∃X,stepB s st.i=X:=⟨_,rfl⟩
  rw [hX] at hIS
  have HX:=hid hX
  have HIS:=hid hIS
  have HNOT:=hid hnot
  have hpp:st.pos<st.i:=by rcases HG0.out.adv with h | h;rw [hnot] at h;cases h;exact h
  clear hX hIS hnot
  go_enter Tryz.func145,Tryz.ntmps145
  generalize hw1:w.alloc (.cells #[.int .u8 0,.int .i64 0,.string ⟨#[]⟩,.slice none 0 0] 80)=w1 at *
  go_wp2_with fail
  clear hw1
  refine HIS.out.mono ?_
  rintro e w2 ⟨hk2,h2⟩
  have HK2:=hid ((KeepR.of (R:=R) HB1.out).trans hk2)
  have HV2:=hid (HV1.out.keep hk2)
  have HA2:=hid (HA1.out.keepR hk2 (by omega))
  clear HIS hk2
  cases X with
  | error a =>
   simp only at h2
   subst h2
   exact ⟨rfl,HK2.out,1,.error a,by show pars s 1 .part st=_;rw [pars,if_pos HNOT.out,HX.out];rfl,rfl⟩
  | ok st2 =>
   obtain ⟨rfl,hr2⟩:=h2
   obtain ⟨hg2,hp2⟩:=step_gs HG0.out.le HX.out
   have HG2:=hid hg2
   have HR2:=hid hr2
   have HP:=hid (HSELF.out (s.size-st.pos) hM st2 w2 (by have:=hg2.pos;have:=hg2.le;have:=HG0.out.le;omega) hg2 hr2 HV2.out)
   clear hg2 hr2
   go_wp2_with fail
   refine HP.out.mono ?_
   rintro e w3 ⟨hk3,fu,r3,hr3,h3⟩
   replace hr3:pars s fu .part st2=some r3:=hr3
   have HK3:=hid (HK2.out.trans hk3)
   clear HP
   rcases r3 with a | gs
   ·simp only at h3
    subst h3
    exact ⟨rfl,HK3.out,fu+1,.error a,by show pars s (fu+1) .part st=_;rw [pars,if_pos HNOT.out,HX.out];show thenP (pars s fu .part st2) _=_;rw [hr3];rfl,rfl⟩
   obtain ⟨g3,st3⟩:=gs
   obtain ⟨⟨cs3,rfl,hgi3⟩,hr4,hg4,hpos4⟩:=h3
   have HA3:=hid (HA2.out.keepR hk3 (by omega))
   have hz2:w.heap.size<w2.heap.size:=HA2.out.lt
   have hz3:w.heap.size<w3.heap.size:=HA3.out.lt
   have hX3:GIs (fun k=>k<w.heap.size+1) w3 g3 cs3:=hgi3.mono (fun k _ h=>by omega)
   have HG4:=hid hg4
   obtain ⟨q1,m1,z1,b1,l2,c2,rfl⟩:=hgi3.four
   have HX3:=hid hX3
   have HR3:=hid hr4
   have o0:=HA3.out.cell (j:=0) (by simp)
   have o1:=HA3.out.cell (j:=1) (by simp)
   have o2:=HA3.out.cell (j:=2) (by simp)
   have o3:=HA3.out.cell (j:=3) (by simp)
   have f0:=HA3.out.frozen 0
   have f1:=HA3.out.frozen 1
   have f2:=HA3.out.frozen 2
   have f3:=HA3.out.frozen 3
   simp only [gE0,gE1] at o0 o1 o2 o3
   clear hk3 hgi3 hr4 hX3
   go_wp2_with fail
   obtain ⟨k1,k2,k3,k4⟩:=store4 (d0:=.int .u8 8) (d1:=.int .i64 0) (d2:=.string ⟨#[]⟩) (d3:=.slice (some ⟨w3.heap.size,0,none⟩) 1 1) HK3.out (Nat.le_refl _) (by omega) HR3.out (X:=fun k=>k<w.heap.size+1) (Nat.lt_succ_self _) HX3.out HA3.out
   have hsz:(((((w3.setCell ⟨w.heap.size,0,none⟩ (.int .u8 8)).setCell ⟨w.heap.size,1,none⟩ (.int .i64 0)).setCell ⟨w.heap.size,2,none⟩ (.string ⟨#[]⟩)).setCell ⟨w.heap.size,3,none⟩ (.slice (some ⟨w3.heap.size,0,none⟩) 1 1))).heap.size=w3.heap.size:=by simp [World.setCell]
   generalize ((((w3.setCell ⟨w.heap.size,0,none⟩ (.int .u8 8)).setCell ⟨w.heap.size,1,none⟩ (.int .i64 0)).setCell ⟨w.heap.size,2,none⟩ (.string ⟨#[]⟩)).setCell ⟨w.heap.size,3,none⟩ (.slice (some ⟨w3.heap.size,0,none⟩) 1 1))=w4 at *
   have hb4:=(Below.refl w4.heap.size w4).alloc (Nat.le_refl _) (.cells #[.int .u8 q1,.int .i64 m1,.string z1,.slice b1 l2 c2] 80)
   refine ret_guard (fn:=Tryz.f145) rfl (g:=w.heap.size) (cs:=[.int .u8 8,.int .i64 0,.string ⟨#[]⟩,.slice (some ⟨w3.heap.size,0,none⟩) 1 1]) rfl rfl rfl (k4.alloc _) ?_
   exact ⟨k1.next hb4,fu+1,.ok (.one 8 g3,st3),by show pars s (fu+1) .part st=_;rw [pars,if_pos HNOT.out,HX.out];show thenP (pars s fu .part st2) _=_;rw [hr3];rfl,⟨_,rfl,⟨w3.heap.size,_,rfl,by omega,⟨alloc_at hsz.symm⟩,(k3.below hb4).mono (fun k _ h=>Nat.lt_succ_of_lt h)⟩⟩,Arr.alloc k2 _,HG4.out,by omega⟩
 have hIS:=is_no R s st notS _ hnot HR1.out
 have HIS:=hid hIS
 have HNOT:=hid hnot
 clear hIS hnot
 go_enter Tryz.func145,Tryz.ntmps145
 generalize hw1:w.alloc (.cells #[.int .u8 0,.int .i64 0,.string ⟨#[]⟩,.slice none 0 0] 80)=w1 at *
 go_wp2_with fail
 clear hw1
 refine HIS.out.mono ?_
 rintro e w2 ⟨rfl,rfl⟩
 have HP:=hid (HSUM.out st w1 hM HG0.out HR1.out HV1.out)
 clear HIS
 go_wp2_with fail
 refine HP.out.mono ?_
 rintro e w2 ⟨hk2,fu2,r2,hr2,h2⟩
 replace hr2:pars s fu2 .sum st=some r2:=hr2
 have HK2:=hid ((KeepR.of (R:=R) HB1.out).trans hk2)
 have HV2:=hid (HV1.out.keep hk2)
 have HA2:=hid (HA1.out.keepR hk2 (by omega))
 clear HP
 rcases r2 with a | gs
 ·simp only at h2
  subst h2
  exact ⟨rfl,HK2.out,fu2+1,.error a,by show pars s (fu2+1) .part st=_;rw [pars,if_neg HNOT.out];show thenP (pars s fu2 .sum st) _=_;rw [hr2];rfl,rfl⟩
 obtain ⟨g2,st2⟩:=gs
 obtain ⟨⟨cs2,rfl,hgi2⟩,hr3,hg3,hpos3⟩:=h2
 have HG3:=hid hg3
 have HP2:=hid hr2
 have hz2:w.heap.size<w2.heap.size:=HA2.out.lt
 have hX2:GIs (fun k=>k<w.heap.size+1\/w2.heap.size<=k) w2 g2 cs2:=hgi2.mono (fun k h1 h=>by omega)
 obtain ⟨q1,m1,z1,b1,l2,c2,rfl⟩:=hgi2.four
 obtain ⟨w3,hw3⟩:∃w3,w2.alloc (.cells #[.int .u8 q1,.int .i64 m1,.string z1,.slice b1 l2 c2] 80)=w3:=⟨_,rfl⟩
 have hz3:w3.heap.size=w2.heap.size+1:=by rw [<-hw3,size_alloc]
 have hc3:Arr w3 w2.heap.size 80 [.int .u8 q1,.int .i64 m1,.string z1,.slice b1 l2 c2]:=hw3▸Arr.new w2 _ _
 have hb3:Below w2.heap.size w2 w3:=hw3▸(Below.refl w2.heap.size w2).alloc (Nat.le_refl _) _
 obtain ⟨w4,hu4,hM4,hg4,hz4⟩:=(MapIs.made w3).update Tryz.underlying178 Tryz.underlying9 (k:=eqS) (by decide) (.int .u8 11)
 obtain ⟨w5,hu5,hM5,hg5,hz5⟩:=hM4.update Tryz.underlying178 Tryz.underlying9 (k:=ltS) (by decide) (.int .u8 12)
 rw [size_alloc] at hz4
 have hrg:=hM5.range Tryz.underlying178
 have hb5:∀k,k<w3.heap.size->w5.heap[k]? = w3.heap[k]?:=fun k hk=>(hg5.block k (by omega) (fun e=>by have:=Option.some.inj e;omega)).trans ((hg4.block k (by rw [size_alloc];omega) (fun e=>by have:=Option.some.inj e;omega)).trans (Below.heap_alloc w3 (.map #[] 0) k hk))
 have hbel5:Below w3.heap.size w3 w5:=⟨hg5.os.trans hg4.os,hg5.tape.trans hg4.tape,hg5.output.trans hg4.output,by omega,fun k hk=>hb5 k hk⟩
 obtain ⟨w6,hw6⟩:∃w6,w5.alloc (.mapIter (some w3.heap.size) relE.length #[] relE.length)=w6:=⟨_,rfl⟩
 have hb6:Below w3.heap.size w3 w6:=hw6▸hbel5.alloc hbel5.size _
 have hI6:IterIs w6 w5.heap.size w3.heap.size relE.length []:=hw6▸IterIs.made w5 _ _
 have hM6:MapIs w6 w3.heap.size relE:=hw6▸hM5.alloc _
 have HPS:Hid (PartSt R s w w2.heap.size w3.heap.size w5.heap.size w2.heap.size w6 st2 g2 [.int .u8 q1,.int .i64 m1,.string z1,.slice b1 l2 c2] []) :=
  ⟨Arr.below (Arr.below hr3 hb3 (Arr.lt hr3)) hb6 (by have:=Arr.lt hr3;omega),(HK2.out.next hb3).next hb6,hM6,hI6,Arr.below (Arr.below HA2.out hb3 hz2) hb6 (by omega),Arr.below hc3 hb6 (by omega),(hX2.below hb3).below hb6⟩
 have HZ3:=hid hz3
 have HZ5:=hid hz5
 have HZ4:=hid hz4
 have HW6:=hid hw6
 have hmm:=@run_makeMap Tryz.prog
 clear hz3 hz5 hk2 hr2 hgi2 hr3 hg3 hX2 hc3 hb3 hM4 hg4 hz4 hM5 hg5 hb5 hbel5 hb6 hI6 hM6
 go_wp2_with fail
 clear hrg hu4 hu5 hmm hw6 hw3
 obtain ⟨gb,hgb⟩:∃gb,w2.heap.size=gb:=⟨_,rfl⟩
 obtain ⟨mb,hmb⟩:∃mb,w3.heap.size=mb:=⟨_,rfl⟩
 obtain ⟨rb,hrb⟩:∃rb,w5.heap.size=rb:=⟨_,rfl⟩
 rw [hgb,hmb,hrb]
 rw [hgb,hmb,hrb] at HPS
 have hgbw:w.heap.size<gb:=by omega
 have hrbg:gb<rb:=by have h1:=HPS.out.cell.lt;have h2:=HZ3.out;have h3:=HZ5.out;have h4:=HZ4.out;omega
 go_loopw [4,5] (fun _ _ wr=>∃seen,Hid (PartSt R s w gb mb rb gb wr st2 g2 [.int .u8 q1,.int .i64 m1,.string z1,.slice b1 l2 c2] seen)/\Hid (∀i∈seen,∀h:i<relE.length,relE[i].1≠st2.now)) (fun _ _ wr=>2-seenI rb wr)
 case atStart=>exact ⟨[],HPS,fun i hi=>by cases hi⟩
 clear HPS
 obtain ⟨seen,HS,HU⟩:=hrel
 have hsum2:∀(f:Nat) (x:Except Nat (GT×GSt)),fu2<=f->(match kRel st2.now with
   | none=>some (.ok (g2,st2))
   | some k=>thenS (stepB s st2.i) fun st3=>thenP (pars s f .sum st3) fun h st4=>some (.ok (.two k g2 h,st4)))=some x->pars s (f+1) .part st=some x:=fun f x hf hx=>by
  rw [pars,if_neg HNOT.out,pars_up hf .sum _ _ HP2.out];exact hx
 have HSUM2:=hid hsum2
 clear hsum2
 rcases HS.out.map.next (P:=Tryz.prog) HS.out.iter 0 with ⟨hall,hrun⟩ | ⟨i,hl,hns,w7,hrun,hM7,hI7,hg7,hz7,hent⟩
 ·have HKR:=hid (relE_none hall HU.out)
  have y0:=HS.out.cell.cell (j:=0) (by simp)
  have y1:=HS.out.cell.cell (j:=1) (by simp)
  have y2:=HS.out.cell.cell (j:=2) (by simp)
  have y3:=HS.out.cell.cell (j:=3) (by simp)
  have o0:=HS.out.out.cell (j:=0) (by simp)
  have o1:=HS.out.out.cell (j:=1) (by simp)
  have o2:=HS.out.out.cell (j:=2) (by simp)
  have o3:=HS.out.out.cell (j:=3) (by simp)
  have f0:=HS.out.out.frozen 0
  have f1:=HS.out.out.frozen 1
  have f2:=HS.out.out.frozen 2
  have f3:=HS.out.out.frozen 3
  simp only [gE0,gE1] at y0 y1 y2 y3 o0 o1 o2 o3
  clear hall
  go_wp2_with fail
  obtain ⟨k1,k2,k3,k4⟩:=store4 (d0:=.int .u8 q1) (d1:=.int .i64 m1) (d2:=.string z1) (d3:=.slice b1 l2 c2) HS.out.keep (Nat.le_refl _) (by omega) HS.out.rd (X:=fun k=>k<w.heap.size+1\/gb<=k) (.inl (Nat.lt_succ_self _)) HS.out.gis HS.out.out
  refine ret_guard (fn:=Tryz.f145) rfl (g:=w.heap.size) (cs:=[.int .u8 q1,.int .i64 m1,.string z1,.slice b1 l2 c2]) rfl rfl rfl k4 ?_
  exact ⟨k1,fu2+1,.ok (g2,st2),HSUM2.out fu2 _ (Nat.le_refl _) (by rw [HKR.out]),⟨_,rfl,k3.mono (fun k _ h=>.inl (Nat.lt_succ_of_lt h))⟩,k2,HG3.out,hpos3⟩
 obtain ⟨kk,hval,hkk⟩:=relE_kind i hl
 rw [hval] at hrun hent
 have hS7:=HS.out.next hg7 hz7 hM7 hI7 hRw hgbw (Nat.le_refl _) hrbg
 have hsl:=seen_lt HS.out.iter.nodup (fun j hj=>by have:=HS.out.iter.inB j hj;rw [relE_len] at this;exact this) (by rw [relE_len] at hl;exact hl) hns
 have hu2:relE[i].1≠st2.now->∀j∈seen++[i],∀h:j<relE.length,relE[j].1≠st2.now:=fun hne j hj h=>by
  rcases List.mem_append.1 hj with hj | hj
  ·exact HU.out j hj h
  rw [List.mem_singleton] at hj;subst hj;exact hne
 have hm0:=seenI_eq HS.out.iter
 have hm7:=seenI_eq hI7
 rw [List.length_append,List.length_singleton] at hm7
 generalize relE[i].1=key at *
 have HS7:=hid hS7
 have HU2:=hid hu2
 have HKK:=hid hkk
 have HM0:=hid hm0
 have HM7:=hid hm7
 have hV7:=hid (HV0.out.keep hS7.keep)
 obtain ⟨x0,x1,x2,x3⟩:=rd_cells hS7.rd
 clear hM7 hI7 hg7 hz7 hval hkk hu2 hm0 hm7 hns hS7
 by_cases hx:st2.now=key
 ·have HIS:=hid (is_yes R s st2 w7 hs HG3.out.le HS7.out.rd hV7.out)
  have HKR:=hid (HKK.out _ hx)
  rw [hx] at HIS
  obtain ⟨X,hX⟩:∃X,stepB s st2.i=X:=⟨_,rfl⟩
  rw [hX] at HIS
  have HX:=hid hX
  have HKEY:=hid hx
  clear hX hx
  go_wp2_with fail
  refine HIS.out.mono ?_
  rintro e w8 ⟨hk8,h8⟩
  have HK8:=hid (HS7.out.keep.trans hk8)
  have HC8:=hid (HS7.out.cell.keepR hk8 (by omega))
  have HO8:=hid (HS7.out.out.keepR hk8 (by omega))
  have HX8:=hid ((GIs.keepR (.inl (by omega)) hk8 HS7.out.gis).mono (Y:=fun k=>k<w.heap.size+1\/k=gb) (fun k _ h=>by omega))
  have HV8:=hid (hV7.out.keep hk8)
  clear HIS hk8
  cases X with
  | error a =>
   simp only at h8
   subst h8
   exact ⟨rfl,HK8.out,fu2+1,.error a,HSUM2.out fu2 _ (Nat.le_refl _) (by rw [HKR.out];simp only;rw [HX.out];rfl),rfl⟩
  | ok st3 =>
   obtain ⟨rfl,hr8⟩:=h8
   obtain ⟨hg8,hp8⟩:=step_gs HG3.out.le HX.out
   have hps8:=HG3.out.pos
   have HG8:=hid hg8
   have HR8:=hid hr8
   have y0:=HC8.out.cell (j:=0) (by simp)
   have y1:=HC8.out.cell (j:=1) (by simp)
   have y2:=HC8.out.cell (j:=2) (by simp)
   have y3:=HC8.out.cell (j:=3) (by simp)
   simp only [gE0,gE1] at y0 y1 y2 y3
   clear hg8 hr8 x0 x1 x2 x3 hrun hent
   go_wp2_with fail
   refine wp_region_held_drew (S:=fun _=>True) (by kernel_rfl) trivial (fun hH=>?_)
   have HR9:=hid (Arr.drew HR8.out)
   have HC9:=hid (Arr.drew HC8.out)
   have HO9:=hid (Arr.drew HO8.out)
   have HK9:=hid (KeepR.drew HK8.out)
   have HV9:=hid (HV8.out.keep (KeepR.drew (KeepR.refl R w8)))
   have HX9:=hid (HX8.out.below (Below.refl w8.heap.size w8).drew)
   clear HR8 HC8 HO8 HK8 HV8 HX8
   replace y0:=HC9.out.cell (j:=0) (by simp)
   replace y1:=HC9.out.cell (j:=1) (by simp)
   replace y2:=HC9.out.cell (j:=2) (by simp)
   replace y3:=HC9.out.cell (j:=3) (by simp)
   simp only [gE0,gE1] at y0 y1 y2 y3
   generalize w8.drew=Wd at *
   refine tK (i:=0) (oi:=⟨some 25,.move (.tmp 5),5,"guard.go:135",#[],none⟩) (v:=.int .u8 kk) (Or.inl ⟨by rfl,fun W hS=>by go_simp⟩) hH ?_
   refine tK (i:=2) (oi:=⟨some 27,.move (.tmp 0),125,"guard.go:135",#[],none⟩) (v:=.pointer (some ⟨R,0,none⟩)) (Or.inl ⟨by rfl,fun W hS=>by go_simp⟩) hH ?_
   refine rD [1,3] ?_
   refine AllReadyH.cons rfl (fun K hK=>?_) (AllReadyH.cons rfl (fun K hK=>?_) AllReadyH.nil)
   ·go_simp
    refine kK hK trivial (fun hH=>?_)
    clear hK K
    refine rD [3] ?_
    refine AllReadyH.cons rfl (fun K hK=>?_) AllReadyH.nil
    go_simp
    refine (HSUM.out st3 Wd (by omega) HG8.out HR9.out HV9.out).mono ?_
    rintro e wA ⟨hkA,fuA,rA,hrA,hA⟩
    replace hrA:pars s fuA .sum st3=some rA:=hrA
    rcases rA with a | gs
    ·simp only at hA
     subst hA
     exact ⟨rfl,HK9.out.trans hkA,max fu2 fuA+1,.error a,HSUM2.out _ _ (Nat.le_max_left _ _) (by rw [HKR.out];simp only;rw [HX.out];show thenP (pars s (max fu2 fuA) .sum st3) _=_;rw [pars_up (Nat.le_max_right fu2 fuA) .sum _ _ hrA];rfl),rfl⟩
    obtain ⟨gA,stA⟩:=gs
    obtain ⟨⟨csA,rfl,hgiA⟩,hrB,hgB,hposB⟩:=hA
    have HPA:=hid hrA
    have hszA:w.heap.size+1<=Wd.heap.size:=HO9.out.lt
    have hgbA:gb<Wd.heap.size:=HC9.out.lt
    have HX5:=hid (GIs.keepR (X:=fun k=>k<w.heap.size+1\/k=gb) (Or.inl (by omega)) hkA HX9.out)
    have HX6:=hid (hgiA.mono (Y:=fun k=>k<w.heap.size+1\/k=gb) (fun k _ h=>by omega))
    have HC6:=hid (HC9.out.keepR hkA (by omega))
    have HO6:=hid (HO9.out.keepR hkA (by omega))
    have HR6:=hid hrB
    have HG6:=hid hgB
    have HK6:=hid (HK9.out.trans hkA)
    obtain ⟨q5,m5,z5,b5,l5,c5,rfl⟩:=hgiA.four
    replace y0:=HC6.out.cell (j:=0) (by simp)
    replace y1:=HC6.out.cell (j:=1) (by simp)
    replace y2:=HC6.out.cell (j:=2) (by simp)
    replace y3:=HC6.out.cell (j:=3) (by simp)
    simp only [gE0,gE1] at y0 y1 y2 y3
    clear hkA hrA hgiA hrB hgB
    refine kK hK trivial (fun hH=>?_)
    clear hK K
    refine rD [4] ?_
    refine AllReadyH.cons rfl (fun K hK=>?_) AllReadyH.nil
    go_simp
    refine (two_walk (fun k=>k<w.heap.size+1\/k=gb) kk g2 gA [.int .u8 q1,.int .i64 m1,.string z1,.slice b1 l2 c2] [.int .u8 q5,.int .i64 m5,.string z5,.slice b5 l5 c5] wA (fun k h=>by have:=HC6.out.lt;have:=HO6.out.lt;omega) HX5.out HX6.out).mono ?_
    rintro e wB ⟨hbB,csB,rfl,hgiB⟩
    have HO7:=hid (Arr.below HO6.out hbB HO6.out.lt)
    have HR7:=hid (Arr.below HR6.out hbB (Arr.lt HR6.out))
    have HK7:=hid (HK6.out.next hbB)
    have HX7:=hid hgiB
    obtain ⟨q6,m6,z6,b6,l6,c6,rfl⟩:=hgiB.four
    have f0:=HO7.out.frozen 0
    have f1:=HO7.out.frozen 1
    have f2:=HO7.out.frozen 2
    have f3:=HO7.out.frozen 3
    replace y0:=HO7.out.cell (j:=0) (by simp)
    replace y1:=HO7.out.cell (j:=1) (by simp)
    replace y2:=HO7.out.cell (j:=2) (by simp)
    replace y3:=HO7.out.cell (j:=3) (by simp)
    simp only [gE0,gE1] at y0 y1 y2 y3
    clear hbB hgiB
    refine kK hK trivial (fun hH=>?_)
    clear hK K
    refine rD [5] ?_
    refine AllReadyH.cons rfl (fun K hK=>?_) AllReadyH.nil
    go_simp
    refine kK hK trivial (fun hH=>?_)
    clear hK K
    refine wpAnyH_done (by kernel_rfl) ?_ _
    obtain ⟨k1,k2,k3,k4⟩:=store4 (d0:=.int .u8 q6) (d1:=.int .i64 m6) (d2:=.string z6) (d3:=.slice b6 l6 c6) HK7.out (Nat.le_refl _) (by omega) HR7.out (X:=fun k=>k<w.heap.size+1\/k=gb) (.inl (Nat.lt_succ_self _)) HX7.out HO7.out
    go_wp2_with fail
    refine ret_guard (fn:=Tryz.f145) rfl (g:=w.heap.size) (cs:=[.int .u8 q6,.int .i64 m6,.string z6,.slice b6 l6 c6]) rfl rfl rfl k4 ?_
    exact ⟨k1,max fu2 fuA+1,.ok (.two kk g2 gA,stA),HSUM2.out _ _ (Nat.le_max_left _ _) (by rw [HKR.out];simp only;rw [HX.out];show thenP (pars s (max fu2 fuA) .sum st3) _=_;rw [pars_up (Nat.le_max_right fu2 fuA) .sum _ _ HPA.out];rfl),⟨_,rfl,k3.mono (fun k _ h=>.inl (Nat.lt_succ_of_lt h))⟩,k2,HG6.out,by omega⟩
   go_simp
   refine (HSUM.out st3 Wd (by omega) HG8.out HR9.out HV9.out).mono ?_
   rintro e wA ⟨hkA,fuA,rA,hrA,hA⟩
   replace hrA:pars s fuA .sum st3=some rA:=hrA
   rcases rA with a | gs
   ·simp only at hA
    subst hA
    exact ⟨rfl,HK9.out.trans hkA,max fu2 fuA+1,.error a,HSUM2.out _ _ (Nat.le_max_left _ _) (by rw [HKR.out];simp only;rw [HX.out];show thenP (pars s (max fu2 fuA) .sum st3) _=_;rw [pars_up (Nat.le_max_right fu2 fuA) .sum _ _ hrA];rfl),rfl⟩
   obtain ⟨gA,stA⟩:=gs
   obtain ⟨⟨csA,rfl,hgiA⟩,hrB,hgB,hposB⟩:=hA
   have HPA:=hid hrA
   have hszA:w.heap.size+1<=Wd.heap.size:=HO9.out.lt
   have hgbA:gb<Wd.heap.size:=HC9.out.lt
   have HX5:=hid (GIs.keepR (X:=fun k=>k<w.heap.size+1\/k=gb) (Or.inl (by omega)) hkA HX9.out)
   have HX6:=hid (hgiA.mono (Y:=fun k=>k<w.heap.size+1\/k=gb) (fun k _ h=>by omega))
   have HC6:=hid (HC9.out.keepR hkA (by omega))
   have HO6:=hid (HO9.out.keepR hkA (by omega))
   have HR6:=hid hrB
   have HG6:=hid hgB
   have HK6:=hid (HK9.out.trans hkA)
   obtain ⟨q5,m5,z5,b5,l5,c5,rfl⟩:=hgiA.four
   replace y0:=HC6.out.cell (j:=0) (by simp)
   replace y1:=HC6.out.cell (j:=1) (by simp)
   replace y2:=HC6.out.cell (j:=2) (by simp)
   replace y3:=HC6.out.cell (j:=3) (by simp)
   simp only [gE0,gE1] at y0 y1 y2 y3
   clear hkA hrA hgiA hrB hgB
   refine kK hK trivial (fun hH=>?_)
   clear hK K
   refine rD [1] ?_
   refine AllReadyH.cons rfl (fun K hK=>?_) AllReadyH.nil
   go_simp
   refine kK hK trivial (fun hH=>?_)
   clear hK K
   refine rD [4] ?_
   refine AllReadyH.cons rfl (fun K hK=>?_) AllReadyH.nil
   go_simp
   refine (two_walk (fun k=>k<w.heap.size+1\/k=gb) kk g2 gA [.int .u8 q1,.int .i64 m1,.string z1,.slice b1 l2 c2] [.int .u8 q5,.int .i64 m5,.string z5,.slice b5 l5 c5] wA (fun k h=>by have:=HC6.out.lt;have:=HO6.out.lt;omega) HX5.out HX6.out).mono ?_
   rintro e wB ⟨hbB,csB,rfl,hgiB⟩
   have HO7:=hid (Arr.below HO6.out hbB HO6.out.lt)
   have HR7:=hid (Arr.below HR6.out hbB (Arr.lt HR6.out))
   have HK7:=hid (HK6.out.next hbB)
   have HX7:=hid hgiB
   obtain ⟨q6,m6,z6,b6,l6,c6,rfl⟩:=hgiB.four
   have f0:=HO7.out.frozen 0
   have f1:=HO7.out.frozen 1
   have f2:=HO7.out.frozen 2
   have f3:=HO7.out.frozen 3
   replace y0:=HO7.out.cell (j:=0) (by simp)
   replace y1:=HO7.out.cell (j:=1) (by simp)
   replace y2:=HO7.out.cell (j:=2) (by simp)
   replace y3:=HO7.out.cell (j:=3) (by simp)
   simp only [gE0,gE1] at y0 y1 y2 y3
   clear hbB hgiB
   refine kK hK trivial (fun hH=>?_)
   clear hK K
   refine rD [5] ?_
   refine AllReadyH.cons rfl (fun K hK=>?_) AllReadyH.nil
   go_simp
   refine kK hK trivial (fun hH=>?_)
   clear hK K
   refine wpAnyH_done (by kernel_rfl) ?_ _
   obtain ⟨k1,k2,k3,k4⟩:=store4 (d0:=.int .u8 q6) (d1:=.int .i64 m6) (d2:=.string z6) (d3:=.slice b6 l6 c6) HK7.out (Nat.le_refl _) (by omega) HR7.out (X:=fun k=>k<w.heap.size+1\/k=gb) (.inl (Nat.lt_succ_self _)) HX7.out HO7.out
   go_wp2_with fail
   refine ret_guard (fn:=Tryz.f145) rfl (g:=w.heap.size) (cs:=[.int .u8 q6,.int .i64 m6,.string z6,.slice b6 l6 c6]) rfl rfl rfl k4 ?_
   exact ⟨k1,max fu2 fuA+1,.ok (.two kk g2 gA,stA),HSUM2.out _ _ (Nat.le_max_left _ _) (by rw [HKR.out];simp only;rw [HX.out];show thenP (pars s (max fu2 fuA) .sum st3) _=_;rw [pars_up (Nat.le_max_right fu2 fuA) .sum _ _ HPA.out];rfl),⟨_,rfl,k3.mono (fun k _ h=>.inl (Nat.lt_succ_of_lt h))⟩,k2,HG6.out,by omega⟩
 have HIS:=hid (is_no R s st2 key w7 hx HS7.out.rd)
 have HKEY:=hid (HU2.out (Ne.symm hx))
 clear hx
 go_wp2_with fail
 refine HIS.out.mono ?_
 rintro e w8 ⟨rfl,rfl⟩
 go_wp2_with fail
 exact ⟨⟨seen++[i],HS7,HKEY⟩,by rw [HM0.out,HM7.out];omega⟩
end Go.Proofs.YtfbbkmdhnkmonaaGreatDoor
namespace Go.Proofs.YtfbbkmdhnkmonaaGreatDoor
open Go.RowKit
theorem need_gs {s x:ByteArray} {st st':GSt} (hi:st.i<=s.size) (h:needB s x st=.ok st'):GS s st'/\st.i<=st'.pos:=by
 unfold needB at h
 split at h
 ·exact step_gs hi h
 cases h
theorem name_gs {s:ByteArray} {st st':GSt} (hi:st.i<=s.size) (h:(if namedG st.now=true then stepB s st.i else .error st.pos)=.ok st'):GS s st'/\st.i<=st'.pos:=by
 split at h
 ·exact step_gs hi h
 cases h
theorem nameB_eq (s:ByteArray) (st:GSt) (k:ByteArray->GSt->PR):nameB s st k=thenS (if namedG st.now=true then stepB s st.i else .error st.pos) (k st.now):=by
 unfold nameB
 split<;>rfl
theorem tol_ne {a x:ByteArray} {l:List UInt8} (h:¬a=x) (hl:x.data.toList=l):¬a.toList=l:=fun e=>by
 rw [Lib.toList_data,<-hl] at e
 exact h (ByteArray.ext (Array.ext' e))
theorem tok_digits {now:ByteArray} (h:TokOk now) (h0:0<now.size) (hd:digitB (now.data.toList.headD 0)=true):now.data.toList≠[]/\now.data.toList.all digitB=true/\spell 0 now.data.toList<=9223372036854775807:=by
 rcases h with h | ⟨l,hl,hlo⟩
 ·omega
 match l,hl,hlo with
 | [],_,hlo=>exact absurd hlo (by decide)
 | c :: r,hl,hlo =>
  have hc:digitB c=true:=by
   rw [hl] at hd
   obtain ⟨m,hm⟩:∃m,longB (c :: r)=m+1:=⟨longB (c :: r)-1,by omega⟩
   rw [hm] at hd
   exact hd
  have hcd:48<=c.toNat/\c.toNat<=57:=by simpa [digitB] using hc
  rw [hl]
  by_cases hs:signsB.contains c=true
  ·have h1:longB (c :: r)=1:=by rw [longB,if_pos hs]
   rw [h1]
   refine ⟨by simp,by simp [hc],?_⟩
   show 0*10+(c.toNat-48)<=_
   omega
  have h48:c.toNat≠48:=by
   intro h
   have:c=48:=UInt8.toNat_inj.1 h
   subst this
   exact hs (by decide)
  rw [longB,if_neg hs,if_pos (by omega)] at hlo ⊢
  split at hlo
  ·rename_i hsp
   rw [if_pos hsp]
   have ht:(c :: r).take ((r.takeWhile digitB).length+1)=c :: r.takeWhile digitB:=by rw [List.take_succ_cons,take_takeWhile]
   rw [ht]
   exact ⟨by simp,by rw [List.all_cons,hc,Bool.true_and];exact List.all_takeWhile,hsp⟩
  omega
theorem tok_quote {now:ByteArray} (h:TokOk now) (h0:0<now.size) (hd:now.data.toList.headD 0=39):2<=now.size:=by
 rcases h with h | ⟨l,hl,hlo⟩
 ·omega
 match l,hl,hlo with
 | [],_,hlo=>exact absurd hlo (by decide)
 | c :: r,hl,hlo =>
  have hc:c=39:=by
   rw [hl] at hd
   obtain ⟨m,hm⟩:∃m,longB (c :: r)=m+1:=⟨longB (c :: r)-1,by omega⟩
   rw [hm] at hd
   exact hd
  subst hc
  have hlen:=congrArg List.length hl
  rw [ba_len,List.length_take] at hlen
  have hle:=longB_le (39 :: r)
  rw [longB,if_neg (by decide),if_neg (by decide),if_pos rfl] at hlo hlen hle
  split at hlo
  ·rename_i hx
   rw [if_pos hx] at hlen hle
   omega
  omega
theorem leaf_ret {R:Nat} {w W:World} {s:ByteArray} {st st2:GSt} {k:Nat} {n:Int} {x:ByteArray} {fu:Nat} {a:Act} {c0 c1 c2 c3:Value} (h2:a.tmps.getD 2 undef=.pointer (some ⟨w.heap.size,0,none⟩)) (hd:a.defers=[]) (hk:KeepR R w W) (hRw:R<w.heap.size)
  (hr:RdIs R W s st2) (ho:Arr W w.heap.size 80 [c0,c1,c2,c3]) (hg:GS s st2) (hp:st.pos<=st2.pos) (hf:pars s fu .atom st=some (.ok (.leaf k n x,st2))) :
  bodyPost Tryz.prog Tryz.f197 (PEnd R s (fun fu=>pars s fu .atom st) st w) .ret a ((((W.setCell ⟨w.heap.size,0,none⟩ (.int .u8 k)).setCell ⟨w.heap.size,1,none⟩ (.int .i64 n)).setCell ⟨w.heap.size,2,none⟩ (.string x)).setCell ⟨w.heap.size,3,none⟩ (.slice none 0 0)):=by
 obtain ⟨k1,k2,k3,k4⟩:=store4 (d0:=.int .u8 k) (d1:=.int .i64 n) (d2:=.string x) (d3:=.slice none 0 0) hk (Nat.le_refl _) (by omega) hr (g:=.leaf k n x) (cs:=[.int .u8 k,.int .i64 n,.string x,.slice none 0 0]) (X:=fun k=>k<w.heap.size+1) (Nat.lt_succ_self _) rfl ho
 refine ret_guard (fn:=Tryz.f197) rfl (g:=w.heap.size) (cs:=[.int .u8 k,.int .i64 n,.string x,.slice none 0 0]) h2 hd rfl k4 ?_
 exact ⟨k1,fu,_,hf,⟨_,rfl,rfl⟩,k2,hg,hp⟩
section
variable {s:ByteArray} {st:GSt} {f:Nat}
theorem at1 (h1:st.now=trueS):pars s (f+1) .atom st=thenS (stepB s st.i) fun st1=>some (.ok (.leaf 1 0 ⟨#[]⟩,st1)):=by rw [pars,atomL,if_pos h1]
theorem at2 (h1:¬st.now=trueS) (h2:st.now=falseS):pars s (f+1) .atom st=thenS (stepB s st.i) fun st1=>some (.ok (.leaf 2 0 ⟨#[]⟩,st1)):=by rw [pars,atomL,if_neg h1,if_pos h2]
theorem at3 (h1:¬st.now=trueS) (h2:¬st.now=falseS) (h3:st.now=openS\/st.now=doneS):pars s (f+1) .atom st=thenS (stepB s st.i) fun st1=>thenS (needB s lparS st1) fun st2=>thenS (if namedG st2.now=true then stepB s st2.i else .error st2.pos) fun st3=>thenS (needB s rparS st3) fun st4=>some (.ok (.leaf (if st.now=doneS then 7 else 6) 0 st2.now,st4)):=by
 rw [pars,atomL,if_neg h1,if_neg h2,if_pos h3]
 simp only [nameB_eq]
theorem at4 (h1:¬st.now=trueS) (h2:¬st.now=falseS) (h3:¬(st.now=openS\/st.now=doneS)) (h4:st.now=lparS):pars s (f+1) .atom st=thenS (stepB s st.i) fun st1=>thenP (pars s f .guard st1) fun g st2=>thenS (needB s rparS st2) fun st3=>some (.ok (g,st3)):=by
 rw [pars,atomL,if_neg h1,if_neg h2,if_neg h3,if_pos h4]
theorem at5 (h1:¬st.now=trueS) (h2:¬st.now=falseS) (h3:¬(st.now=openS\/st.now=doneS)) (h4:¬st.now=lparS) (h5:0<st.now.size/\digitB (st.now.data.toList.headD 0)):pars s (f+1) .atom st=thenS (stepB s st.i) fun st1=>some (.ok (.leaf 3 (spell 0 st.now.data.toList) ⟨#[]⟩,st1)):=by
 rw [pars,atomL,if_neg h1,if_neg h2,if_neg h3,if_neg h4,if_pos h5]
theorem at6 (h1:¬st.now=trueS) (h2:¬st.now=falseS) (h3:¬(st.now=openS\/st.now=doneS)) (h4:¬st.now=lparS) (h5:¬(0<st.now.size/\digitB (st.now.data.toList.headD 0))) (h6:0<st.now.size/\st.now.data.toList.headD 0=39):pars s (f+1) .atom st=thenS (stepB s st.i) fun st1=>some (.ok (.leaf 4 0 (st.now.extract 1 (st.now.size-1)),st1)):=by
 rw [pars,atomL,if_neg h1,if_neg h2,if_neg h3,if_neg h4,if_neg h5,if_pos h6]
theorem at7 (h1:¬st.now=trueS) (h2:¬st.now=falseS) (h3:¬(st.now=openS\/st.now=doneS)) (h4:¬st.now=lparS) (h5:¬(0<st.now.size/\digitB (st.now.data.toList.headD 0))) (h6:¬(0<st.now.size/\st.now.data.toList.headD 0=39)):pars s (f+1) .atom st=thenS (if namedG st.now=true then stepB s st.i else .error st.pos) fun st1=>some (.ok (.leaf 5 0 st.now,st1)):=by
 rw [pars,atomL,if_neg h1,if_neg h2,if_neg h3,if_neg h4,if_neg h5,if_neg h6,nameB_eq]
end
theorem atom_sub {R:Nat} {s:ByteArray} {N:Nat} (hs:s.size<=17000) (hguard:∀N',N' < N->SubC R s N' 80 .guard):SubC R s N 197 .atom:=by
 intro st w hM hg h hv
 have hRw:R<w.heap.size:=Arr.lt h
 obtain ⟨w1,hw1⟩:∃w1,w.alloc (.cells #[.int .u8 0,.int .i64 0,.string ⟨#[]⟩,.slice none 0 0] 80)=w1:=⟨_,rfl⟩
 have HA1:Hid (Arr w1 w.heap.size 80 zeroG):=hw1▸Arr.new w zeroG 80
 have HB1:Hid (Below w.heap.size w w1):=hw1▸(Below.refl w.heap.size w).alloc (Nat.le_refl _) _
 have HR1:Hid (RdIs R w1 s st):=hw1▸Arr.alloc h _
 have HV1:=hid (hv.keep (.of HB1.out))
 have HG0:=hid hg
 have HGU:=hid hguard
 have hpos:=hg.pos
 obtain ⟨x0,x1,x2,x3⟩:=rd_cells HR1.out
 clear hguard h hv hg
 obtain ⟨X,hX⟩:∃X,stepB s st.i=X:=⟨_,rfl⟩
 have hX0:=hX
 have HSTEP:=step_walk R s st w1 hs HG0.out.le HR1.out HV1.out
 rw [hX] at HSTEP
 have HX:=hid hX0
 replace HSTEP:=hid HSTEP
 clear hX hX0
 by_cases ht:st.now=trueS
 ·have hIS:=is_yes R s st w1 hs HG0.out.le HR1.out HV1.out
  rw [HX.out] at hIS
  rw [ht] at hIS x3
  have HIS:=hid hIS
  have HT:=hid ht
  clear ht hIS
  go_enter Tryz.func197,Tryz.ntmps197
  go_wp2_with fail
  clear hw1
  refine HIS.out.mono ?_
  rintro e w2 ⟨hk2,h2⟩
  have HK2:=hid ((KeepR.of (R:=R) HB1.out).trans hk2)
  have HV2:=hid (HV1.out.keep hk2)
  have HA2:=hid (HA1.out.keepR hk2 (by omega))
  clear HIS hk2
  rcases X with a | st2
  ·simp only at h2
   subst h2
   exact ⟨rfl,HK2.out,1,.error a,by show pars s 1 .atom st=_;rw [at1 HT.out,HX.out];rfl,rfl⟩
  obtain ⟨rfl,hr2⟩:=h2
  obtain ⟨hg2,hp2⟩:=step_gs HG0.out.le HX.out
  have HR2:=hid hr2
  have HG2:=hid hg2
  clear hr2 hg2 x0 x1 x2 x3
  have o0:=HA2.out.cell (j:=0) (by simp)
  have o1:=HA2.out.cell (j:=1) (by simp)
  have o2:=HA2.out.cell (j:=2) (by simp)
  have o3:=HA2.out.cell (j:=3) (by simp)
  have f0:=HA2.out.frozen 0
  have f1:=HA2.out.frozen 1
  have f2:=HA2.out.frozen 2
  have f3:=HA2.out.frozen 3
  simp only [gE0,gE1] at o0 o1 o2 o3
  go_wp2_with fail
  exact leaf_ret (fu:=1) rfl rfl HK2.out hRw HR2.out HA2.out HG2.out (by omega) (by rw [at1 HT.out,HX.out];rfl)
 have h1:¬st.now=trueS:=ht
 clear ht
 by_cases h2:st.now=falseS
 ·have hIS:=is_yes R s st w1 hs HG0.out.le HR1.out HV1.out
  rw [HX.out] at hIS
  have HN1:=hid (is_no R s st trueS w1 h1 HR1.out)
  rw [h2] at hIS x3
  have HIS:=hid hIS
  have H1:=hid h1
  have H2:=hid h2
  clear h1 h2 hIS
  go_enter Tryz.func197,Tryz.ntmps197
  go_wp2_with fail
  clear hw1
  refine HN1.out.mono ?_
  rintro e w2 ⟨rfl,rfl⟩
  clear HN1
  go_wp2_with fail
  refine HIS.out.mono ?_
  rintro e w2 ⟨hk2,h2⟩
  have HK2:=hid ((KeepR.of (R:=R) HB1.out).trans hk2)
  have HV2:=hid (HV1.out.keep hk2)
  have HA2:=hid (HA1.out.keepR hk2 (by omega))
  clear HIS hk2
  rcases X with a | st2
  ·simp only at h2
   subst h2
   exact ⟨rfl,HK2.out,1,.error a,by show pars s 1 .atom st=_;rw [at2 H1.out H2.out,HX.out];rfl,rfl⟩
  obtain ⟨rfl,hr2⟩:=h2
  obtain ⟨hg2,hp2⟩:=step_gs HG0.out.le HX.out
  have HR2:=hid hr2
  have HG2:=hid hg2
  clear hr2 hg2 x0 x1 x2 x3
  have o0:=HA2.out.cell (j:=0) (by simp)
  have o1:=HA2.out.cell (j:=1) (by simp)
  have o2:=HA2.out.cell (j:=2) (by simp)
  have o3:=HA2.out.cell (j:=3) (by simp)
  have f0:=HA2.out.frozen 0
  have f1:=HA2.out.frozen 1
  have f2:=HA2.out.frozen 2
  have f3:=HA2.out.frozen 3
  simp only [gE0,gE1] at o0 o1 o2 o3
  go_wp2_with fail
  exact leaf_ret (fu:=1) rfl rfl HK2.out hRw HR2.out HA2.out HG2.out (by omega) (by rw [at2 H1.out H2.out,HX.out];rfl)
 by_cases h3:st.now=openS
 ·have HN1:=hid (is_no R s st trueS w1 h1 HR1.out)
  have HN2:=hid (is_no R s st falseS w1 h2 HR1.out)
  have e1:((openS:ByteArray).toList==(openS:ByteArray).toList)=true:=by rw [ba_eq];decide
  have e2:((openS:ByteArray).toList==(doneS:ByteArray).toList)=false:=by rw [ba_eq];decide
  rw [h3] at x3
  have hAT:∀f,pars s (f+1) .atom st=_:=fun f=>at3 h1 h2 (.inl h3)
  have HAT:=hid hAT
  have HK:Hid ((if st.now=doneS then 7 else 6)=6):=by show _=_;rw [h3];decide
  clear h1 h2 h3 hAT
  go_enter Tryz.func197,Tryz.ntmps197
  go_wp2_with fail
  clear hw1
  refine HN1.out.mono ?_
  rintro e w2 ⟨rfl,rfl⟩
  clear HN1
  go_wp2_with fail
  refine HN2.out.mono ?_
  rintro e w2 ⟨rfl,rfl⟩
  clear HN2
  go_wp2_with fail
  refine HSTEP.out.mono ?_
  rintro e w2 ⟨hk2,h2⟩
  have HK2:=hid ((KeepR.of (R:=R) HB1.out).trans hk2)
  have HV2:=hid (HV1.out.keep hk2)
  have HA2:=hid (HA1.out.keepR hk2 (by omega))
  clear HSTEP hk2
  rcases X with a | st2
  ·simp only at h2
   subst h2
   exact ⟨rfl,HK2.out,1,.error a,by show pars s 1 .atom st=_;rw [HAT.out,HX.out];rfl,rfl⟩
  obtain ⟨rfl,hr2⟩:=h2
  obtain ⟨hg2,hp2⟩:=step_gs HG0.out.le HX.out
  have HR2:=hid hr2
  have HG2:=hid hg2
  clear hr2 hg2 x0 x1 x2 x3
  obtain ⟨X2,hX2⟩:∃X2,needB s lparS st2=X2:=⟨_,rfl⟩
  have hND:=need_walk R s st2 lparS w2 hs HG2.out.le HR2.out HV2.out
  rw [hX2] at hND
  have HX2:=hid hX2
  have HND:=hid hND
  clear hX2 hND
  go_wp2_with fail
  refine HND.out.mono ?_
  rintro e w3 ⟨hk3,h3⟩
  have HK3:=hid (HK2.out.trans hk3)
  have HV3:=hid (HV2.out.keep hk3)
  have HA3:=hid (HA2.out.keepR hk3 (by omega))
  clear HND hk3
  rcases X2 with a | st3
  ·simp only at h3
   subst h3
   exact ⟨rfl,HK3.out,1,.error a,by show pars s 1 .atom st=_;rw [HAT.out,HX.out];simp only [thenS];rw [HX2.out],rfl⟩
  obtain ⟨rfl,hr3⟩:=h3
  obtain ⟨hg3,hp3⟩:=need_gs HG2.out.le HX2.out
  have hps2:=HG2.out.pos
  have HR3:=hid hr3
  have HG3:=hid hg3
  obtain ⟨X3,hX3⟩:∃X3,(if namedG st3.now=true then stepB s st3.i else .error st3.pos)=X3:=⟨_,rfl⟩
  have hND:=name_walk R s st3 w3 hs hg3.le hr3 HV3.out
  rw [hX3] at hND
  have HX3:=hid hX3
  have HND:=hid hND
  clear hX3 hND hr3 hg3
  go_wp2_with fail
  refine HND.out.mono ?_
  rintro e w4 ⟨hk4,h4⟩
  have HK4:=hid (HK3.out.trans hk4)
  have HV4:=hid (HV3.out.keep hk4)
  have HA4:=hid (HA3.out.keepR hk4 (by omega))
  clear HND hk4
  rcases X3 with a | st4
  ·simp only at h4
   subst h4
   exact ⟨rfl,HK4.out,1,.error a,by show pars s 1 .atom st=_;rw [HAT.out,HX.out];simp only [thenS];rw [HX2.out];simp only;rw [HX3.out],rfl⟩
  obtain ⟨rfl,hr4⟩:=h4
  obtain ⟨hg4,hp4⟩:=name_gs HG3.out.le HX3.out
  have hps3:=HG3.out.pos
  have HR4:=hid hr4
  have HG4:=hid hg4
  clear hr4 hg4
  go_upto_region 12 with fail
  have HC5:=hid (Arr.new w4 [.int .u8 6,.int .i64 0,.string st3.now,.slice none 0 0] 80)
  have HA5:=hid (HA4.out.alloc (.cells #[.int .u8 6,.int .i64 0,.string st3.now,.slice none 0 0] 80))
  have HR5:=hid (Arr.alloc HR4.out (.cells #[.int .u8 6,.int .i64 0,.string st3.now,.slice none 0 0] 80))
  have HK5:=hid (HK4.out.alloc (.cells #[.int .u8 6,.int .i64 0,.string st3.now,.slice none 0 0] 80))
  have HV5:=hid (HV4.out.keep (R:=R) (.of ((Below.refl _ _).alloc (Nat.le_refl _) (.cells #[.int .u8 6,.int .i64 0,.string st3.now,.slice none 0 0] 80))))
  generalize w4.alloc (.cells #[.int .u8 6,.int .i64 0,.string st3.now,.slice none 0 0] 80)=w5 at *
  have hgb:w.heap.size<w4.heap.size:=HA4.out.lt
  obtain ⟨X4,hX4⟩:∃X4,needB s rparS st4=X4:=⟨_,rfl⟩
  have hND:=need_walk R s st4 rparS w5 hs HG4.out.le HR5.out HV5.out
  rw [hX4] at hND
  have HX4:=hid hX4
  have HND:=hid hND
  clear hX4 hND
  go_wp2_with fail
  refine HND.out.mono ?_
  rintro e w6 ⟨hk6,h6⟩
  have HK6:=hid (HK5.out.trans hk6)
  have HA6:=hid (HA5.out.keepR hk6 (by omega))
  have HC6:=hid (HC5.out.keepR hk6 (by omega))
  clear HND hk6
  rcases X4 with a | st5
  ·simp only at h6
   subst h6
   exact ⟨rfl,HK6.out,1,.error a,by show pars s 1 .atom st=_;rw [HAT.out,HX.out];simp only [thenS];rw [HX2.out];simp only;rw [HX3.out];simp only;rw [HX4.out],rfl⟩
  obtain ⟨rfl,hr6⟩:=h6
  obtain ⟨hg6,hp6⟩:=need_gs HG4.out.le HX4.out
  have hps4:=HG4.out.pos
  have HR6:=hid hr6
  have HG6:=hid hg6
  have y0:=HC6.out.cell (j:=0) (by simp)
  have y1:=HC6.out.cell (j:=1) (by simp)
  have y2:=HC6.out.cell (j:=2) (by simp)
  have y3:=HC6.out.cell (j:=3) (by simp)
  simp only [gE0,gE1] at y0 y1 y2 y3
  clear hr6 hg6
  have o0:=HA6.out.cell (j:=0) (by simp)
  have o1:=HA6.out.cell (j:=1) (by simp)
  have o2:=HA6.out.cell (j:=2) (by simp)
  have o3:=HA6.out.cell (j:=3) (by simp)
  have f0:=HA6.out.frozen 0
  have f1:=HA6.out.frozen 1
  have f2:=HA6.out.frozen 2
  have f3:=HA6.out.frozen 3
  simp only [gE0,gE1] at o0 o1 o2 o3
  go_wp2_with fail
  exact leaf_ret (fu:=1) rfl rfl HK6.out hRw HR6.out HA6.out HG6.out (by omega) (by rw [HAT.out,HX.out];simp only [thenS];rw [HX2.out];simp only;rw [HX3.out];simp only;rw [HX4.out];simp only;rw [HK.out])
 have hno:=h3
 clear h3
 by_cases h3:st.now=doneS
 ·have HN1:=hid (is_no R s st trueS w1 h1 HR1.out)
  have HN2:=hid (is_no R s st falseS w1 h2 HR1.out)
  have e1:((doneS:ByteArray).toList==(openS:ByteArray).toList)=false:=by rw [ba_eq];decide
  have e2:((doneS:ByteArray).toList==(doneS:ByteArray).toList)=true:=by rw [ba_eq];decide
  rw [h3] at x3
  have hAT:∀f,pars s (f+1) .atom st=_:=fun f=>at3 h1 h2 (.inr h3)
  have HAT:=hid hAT
  have HK:Hid ((if st.now=doneS then 7 else 6)=7):=by show _=_;rw [h3];decide
  clear h1 h2 h3 hAT
  go_enter Tryz.func197,Tryz.ntmps197
  go_wp2_with fail
  clear hw1
  refine HN1.out.mono ?_
  rintro e w2 ⟨rfl,rfl⟩
  clear HN1
  go_wp2_with fail
  refine HN2.out.mono ?_
  rintro e w2 ⟨rfl,rfl⟩
  clear HN2
  go_wp2_with fail
  refine HSTEP.out.mono ?_
  rintro e w2 ⟨hk2,h2⟩
  have HK2:=hid ((KeepR.of (R:=R) HB1.out).trans hk2)
  have HV2:=hid (HV1.out.keep hk2)
  have HA2:=hid (HA1.out.keepR hk2 (by omega))
  clear HSTEP hk2
  rcases X with a | st2
  ·simp only at h2
   subst h2
   exact ⟨rfl,HK2.out,1,.error a,by show pars s 1 .atom st=_;rw [HAT.out,HX.out];rfl,rfl⟩
  obtain ⟨rfl,hr2⟩:=h2
  obtain ⟨hg2,hp2⟩:=step_gs HG0.out.le HX.out
  have HR2:=hid hr2
  have HG2:=hid hg2
  clear hr2 hg2 x0 x1 x2 x3
  obtain ⟨X2,hX2⟩:∃X2,needB s lparS st2=X2:=⟨_,rfl⟩
  have hND:=need_walk R s st2 lparS w2 hs HG2.out.le HR2.out HV2.out
  rw [hX2] at hND
  have HX2:=hid hX2
  have HND:=hid hND
  clear hX2 hND
  go_wp2_with fail
  refine HND.out.mono ?_
  rintro e w3 ⟨hk3,h3⟩
  have HK3:=hid (HK2.out.trans hk3)
  have HV3:=hid (HV2.out.keep hk3)
  have HA3:=hid (HA2.out.keepR hk3 (by omega))
  clear HND hk3
  rcases X2 with a | st3
  ·simp only at h3
   subst h3
   exact ⟨rfl,HK3.out,1,.error a,by show pars s 1 .atom st=_;rw [HAT.out,HX.out];simp only [thenS];rw [HX2.out],rfl⟩
  obtain ⟨rfl,hr3⟩:=h3
  obtain ⟨hg3,hp3⟩:=need_gs HG2.out.le HX2.out
  have hps2:=HG2.out.pos
  have HR3:=hid hr3
  have HG3:=hid hg3
  obtain ⟨X3,hX3⟩:∃X3,(if namedG st3.now=true then stepB s st3.i else .error st3.pos)=X3:=⟨_,rfl⟩
  have hND:=name_walk R s st3 w3 hs hg3.le hr3 HV3.out
  rw [hX3] at hND
  have HX3:=hid hX3
  have HND:=hid hND
  clear hX3 hND hr3 hg3
  go_wp2_with fail
  refine HND.out.mono ?_
  rintro e w4 ⟨hk4,h4⟩
  have HK4:=hid (HK3.out.trans hk4)
  have HV4:=hid (HV3.out.keep hk4)
  have HA4:=hid (HA3.out.keepR hk4 (by omega))
  clear HND hk4
  rcases X3 with a | st4
  ·simp only at h4
   subst h4
   exact ⟨rfl,HK4.out,1,.error a,by show pars s 1 .atom st=_;rw [HAT.out,HX.out];simp only [thenS];rw [HX2.out];simp only;rw [HX3.out],rfl⟩
  obtain ⟨rfl,hr4⟩:=h4
  obtain ⟨hg4,hp4⟩:=name_gs HG3.out.le HX3.out
  have hps3:=HG3.out.pos
  have HR4:=hid hr4
  have HG4:=hid hg4
  clear hr4 hg4
  go_upto_region 12 with fail
  have HC5:=hid (Arr.new w4 [.int .u8 7,.int .i64 0,.string st3.now,.slice none 0 0] 80)
  have HA5:=hid (HA4.out.alloc (.cells #[.int .u8 7,.int .i64 0,.string st3.now,.slice none 0 0] 80))
  have HR5:=hid (Arr.alloc HR4.out (.cells #[.int .u8 7,.int .i64 0,.string st3.now,.slice none 0 0] 80))
  have HK5:=hid (HK4.out.alloc (.cells #[.int .u8 7,.int .i64 0,.string st3.now,.slice none 0 0] 80))
  have HV5:=hid (HV4.out.keep (R:=R) (.of ((Below.refl _ _).alloc (Nat.le_refl _) (.cells #[.int .u8 7,.int .i64 0,.string st3.now,.slice none 0 0] 80))))
  generalize w4.alloc (.cells #[.int .u8 7,.int .i64 0,.string st3.now,.slice none 0 0] 80)=w5 at *
  have hgb:w.heap.size<w4.heap.size:=HA4.out.lt
  obtain ⟨X4,hX4⟩:∃X4,needB s rparS st4=X4:=⟨_,rfl⟩
  have hND:=need_walk R s st4 rparS w5 hs HG4.out.le HR5.out HV5.out
  rw [hX4] at hND
  have HX4:=hid hX4
  have HND:=hid hND
  clear hX4 hND
  go_wp2_with fail
  refine HND.out.mono ?_
  rintro e w6 ⟨hk6,h6⟩
  have HK6:=hid (HK5.out.trans hk6)
  have HA6:=hid (HA5.out.keepR hk6 (by omega))
  have HC6:=hid (HC5.out.keepR hk6 (by omega))
  clear HND hk6
  rcases X4 with a | st5
  ·simp only at h6
   subst h6
   exact ⟨rfl,HK6.out,1,.error a,by show pars s 1 .atom st=_;rw [HAT.out,HX.out];simp only [thenS];rw [HX2.out];simp only;rw [HX3.out];simp only;rw [HX4.out],rfl⟩
  obtain ⟨rfl,hr6⟩:=h6
  obtain ⟨hg6,hp6⟩:=need_gs HG4.out.le HX4.out
  have hps4:=HG4.out.pos
  have HR6:=hid hr6
  have HG6:=hid hg6
  have y0:=HC6.out.cell (j:=0) (by simp)
  have y1:=HC6.out.cell (j:=1) (by simp)
  have y2:=HC6.out.cell (j:=2) (by simp)
  have y3:=HC6.out.cell (j:=3) (by simp)
  simp only [gE0,gE1] at y0 y1 y2 y3
  clear hr6 hg6
  have o0:=HA6.out.cell (j:=0) (by simp)
  have o1:=HA6.out.cell (j:=1) (by simp)
  have o2:=HA6.out.cell (j:=2) (by simp)
  have o3:=HA6.out.cell (j:=3) (by simp)
  have f0:=HA6.out.frozen 0
  have f1:=HA6.out.frozen 1
  have f2:=HA6.out.frozen 2
  have f3:=HA6.out.frozen 3
  simp only [gE0,gE1] at o0 o1 o2 o3
  go_wp2_with fail
  exact leaf_ret (fu:=1) rfl rfl HK6.out hRw HR6.out HA6.out HG6.out (by omega) (by rw [HAT.out,HX.out];simp only [thenS];rw [HX2.out];simp only;rw [HX3.out];simp only;rw [HX4.out];simp only;rw [HK.out])
 have hnd:=h3
 clear h3
 by_cases h4:st.now=lparS
 ·have HN1:=hid (is_no R s st trueS w1 h1 HR1.out)
  have HN2:=hid (is_no R s st falseS w1 h2 HR1.out)
  have e1:((lparS:ByteArray).toList==(openS:ByteArray).toList)=false:=by rw [ba_eq];decide
  have e2:((lparS:ByteArray).toList==(doneS:ByteArray).toList)=false:=by rw [ba_eq];decide
  have hIS:=is_yes R s st w1 hs HG0.out.le HR1.out HV1.out
  rw [HX.out] at hIS
  rw [h4] at hIS x3
  have HIS:=hid hIS
  have hlt:st.pos<st.i:=by rcases HG0.out.adv with h | h;rw [h4] at h;cases h;exact h
  have hAT:∀f,pars s (f+1) .atom st=_:=fun f=>at4 h1 h2 (fun h=>h.elim hno hnd) h4
  have HAT:=hid hAT
  clear h1 h2 h4 hno hnd hAT hIS
  go_enter Tryz.func197,Tryz.ntmps197
  go_wp2_with fail
  clear hw1
  refine HN1.out.mono ?_
  rintro e w2 ⟨rfl,rfl⟩
  clear HN1
  go_wp2_with fail
  refine HN2.out.mono ?_
  rintro e w2 ⟨rfl,rfl⟩
  clear HN2
  go_wp2_with fail
  refine HIS.out.mono ?_
  rintro e w2 ⟨hk2,h2⟩
  have HK2:=hid ((KeepR.of (R:=R) HB1.out).trans hk2)
  have HV2:=hid (HV1.out.keep hk2)
  have HA2:=hid (HA1.out.keepR hk2 (by omega))
  clear HIS hk2
  rcases X with a | st2
  ·simp only at h2
   subst h2
   exact ⟨rfl,HK2.out,1,.error a,by show pars s 1 .atom st=_;rw [HAT.out,HX.out];rfl,rfl⟩
  obtain ⟨rfl,hr2⟩:=h2
  obtain ⟨hg2,hp2⟩:=step_gs HG0.out.le HX.out
  have HR2:=hid hr2
  have HG2:=hid hg2
  clear hr2 hg2 x0 x1 x2 x3
  have hps2:=HG2.out.pos
  have HND:=hid (HGU.out (s.size-st.pos) hM st2 w2 (by have:=HG2.out.le;have:=HG0.out.le;omega) HG2.out HR2.out HV2.out)
  go_wp2_with fail
  refine HND.out.mono ?_
  rintro e w3 ⟨hk3,fu,r3,hr3,h3⟩
  replace hr3:pars s fu .guard st2=some r3:=hr3
  have HK3:=hid (HK2.out.trans hk3)
  have HV3:=hid (HV2.out.keep hk3)
  have HA3:=hid (HA2.out.keepR hk3 (by omega))
  clear HND hk3
  rcases r3 with a | gs
  ·simp only at h3
   subst h3
   exact ⟨rfl,HK3.out,fu+1,.error a,by show pars s (fu+1) .atom st=_;rw [HAT.out,HX.out];simp only [thenS];rw [hr3];rfl,rfl⟩
  obtain ⟨g3,st3⟩:=gs
  obtain ⟨⟨cs3,rfl,hgi3⟩,hr4,hg4,hpos4⟩:=h3
  have hz2:w.heap.size<w2.heap.size:=HA2.out.lt
  have hz3:w.heap.size<w3.heap.size:=HA3.out.lt
  have hX3:GIs (fun k=>k<w.heap.size+1) w3 g3 cs3:=hgi3.mono (fun k _ h=>by omega)
  have HP3:=hid hr3
  have HG4:=hid hg4
  obtain ⟨q1,m1,z1,b1,l2,c2,rfl⟩:=hgi3.four
  have hb3:=(Below.refl w3.heap.size w3).alloc (Nat.le_refl _) (.cells #[.int .u8 q1,.int .i64 m1,.string z1,.slice b1 l2 c2] 80)
  have HC5:=hid (Arr.new w3 [.int .u8 q1,.int .i64 m1,.string z1,.slice b1 l2 c2] 80)
  have HA5:=hid (HA3.out.alloc (.cells #[.int .u8 q1,.int .i64 m1,.string z1,.slice b1 l2 c2] 80))
  have HR5:=hid (Arr.alloc hr4 (.cells #[.int .u8 q1,.int .i64 m1,.string z1,.slice b1 l2 c2] 80))
  have HK5:=hid (HK3.out.next hb3)
  have HV5:=hid (HV3.out.keep (R:=R) (.of hb3))
  have HX5:=hid (hX3.below hb3)
  clear hr3 hgi3 hr4 hg4 hX3 hb3
  go_upto_region 16 with fail
  generalize w3.alloc (.cells #[.int .u8 q1,.int .i64 m1,.string z1,.slice b1 l2 c2] 80)=w5 at *
  obtain ⟨X4,hX4⟩:∃X4,needB s rparS st3=X4:=⟨_,rfl⟩
  have hND:=need_walk R s st3 rparS w5 hs HG4.out.le HR5.out HV5.out
  rw [hX4] at hND
  have HX4:=hid hX4
  have HND:=hid hND
  clear hX4 hND
  go_wp2_with fail
  refine HND.out.mono ?_
  rintro e w6 ⟨hk6,h6⟩
  have HK6:=hid (HK5.out.trans hk6)
  have HA6:=hid (HA5.out.keepR hk6 (by omega))
  have HC6:=hid (HC5.out.keepR hk6 (by omega))
  have HX6:=hid (GIs.keepR (X:=fun k=>k<w.heap.size+1) (by show R<w.heap.size+1;omega) hk6 HX5.out)
  clear HND hk6
  rcases X4 with a | st5
  ·simp only at h6
   subst h6
   exact ⟨rfl,HK6.out,fu+1,.error a,by show pars s (fu+1) .atom st=_;rw [HAT.out,HX.out];simp only [thenS];rw [HP3.out];simp only [thenP];rw [HX4.out],rfl⟩
  obtain ⟨rfl,hr6⟩:=h6
  obtain ⟨hg6,hp6⟩:=need_gs HG4.out.le HX4.out
  have hps4:=HG4.out.pos
  have HR6:=hid hr6
  have HG6:=hid hg6
  have y0:=HC6.out.cell (j:=0) (by simp)
  have y1:=HC6.out.cell (j:=1) (by simp)
  have y2:=HC6.out.cell (j:=2) (by simp)
  have y3:=HC6.out.cell (j:=3) (by simp)
  simp only [gE0,gE1] at y0 y1 y2 y3
  clear hr6 hg6
  have o0:=HA6.out.cell (j:=0) (by simp)
  have o1:=HA6.out.cell (j:=1) (by simp)
  have o2:=HA6.out.cell (j:=2) (by simp)
  have o3:=HA6.out.cell (j:=3) (by simp)
  have f0:=HA6.out.frozen 0
  have f1:=HA6.out.frozen 1
  have f2:=HA6.out.frozen 2
  have f3:=HA6.out.frozen 3
  simp only [gE0,gE1] at o0 o1 o2 o3
  go_wp2_with fail
  obtain ⟨k1,k2,k3,k4⟩:=store4 (d0:=.int .u8 q1) (d1:=.int .i64 m1) (d2:=.string z1) (d3:=.slice b1 l2 c2) HK6.out (Nat.le_refl _) (by omega) HR6.out (X:=fun k=>k<w.heap.size+1) (Nat.lt_succ_self _) HX6.out HA6.out
  refine ret_guard (fn:=Tryz.f197) rfl (g:=w.heap.size) (cs:=[.int .u8 q1,.int .i64 m1,.string z1,.slice b1 l2 c2]) rfl rfl rfl k4 ?_
  exact ⟨k1,fu+1,.ok (g3,st5),by show pars s (fu+1) .atom st=_;rw [HAT.out,HX.out];simp only [thenS];rw [HP3.out];simp only [thenP];rw [HX4.out],⟨_,rfl,k3.mono (fun k _ h=>Nat.lt_succ_of_lt h)⟩,k2,HG6.out,by omega⟩
 by_cases h5:0<st.now.size/\digitB (st.now.data.toList.headD 0)=true
 ·have HN1:=hid (is_no R s st trueS w1 h1 HR1.out)
  have HN2:=hid (is_no R s st falseS w1 h2 HR1.out)
  have HN4:=hid (is_no R s st lparS w1 h4 HR1.out)
  have e1':¬st.now.toList=[111,112,101,110]:=tol_ne (x:=openS) hno rfl
  have e1:(st.now.toList==[111,112,101,110])=false:=by rw [beq_eq_false_iff_ne];exact e1'
  have e2':¬st.now.toList=[100,111,110,101]:=tol_ne (x:=doneS) hnd rfl
  have e2:(st.now.toList==[100,111,110,101])=false:=by rw [beq_eq_false_iff_ne];exact (e2')
  obtain ⟨hd0,hd1⟩:=h5
  have hh5:0<st.now.size/\digitB (st.now.data.toList.headD 0)=true:=⟨hd0,hd1⟩
  rw [head_eq hd0] at hd1
  have e0':¬st.now.toList=[]:=tol_ne (a:=st.now) (x:=⟨#[]⟩) (fun h=>by rw [h] at hd0;exact absurd hd0 (by decide)) rfl
  have e0:(st.now.toList==[])=false:=by rw [beq_eq_false_iff_ne];exact e0'
  have hdd:48<=st.now[0].toNat/\st.now[0].toNat<=57:=by simpa [digitB] using hd1
  have d1:48<=(st.now[0].toNat:Int):=by omega
  have d2:(st.now[0].toNat:Int)<=57:=by omega
  have i0:(0:Int)<(st.now.size:Int):=by omega
  have htk:=tok_digits HG0.out.tok hh5.1 hh5.2
  have hsz:=Nat.le_trans HG0.out.short hs
  have HPI:=hid (fun (W:World) (hv:GW R W)=>digits_walk (R:=R) st.now W hsz htk.1 htk.2.1 hv)
  have HSP:=hid htk.2.2
  have hAT:∀f,pars s (f+1) .atom st=_:=fun f=>at5 h1 h2 (fun h=>h.elim hno hnd) h4 hh5
  have HAT:=hid hAT
  clear h1 h2 h4 hno hnd hAT hd1 hh5 hdd htk hsz
  go_enter Tryz.func197,Tryz.ntmps197
  go_wp2_with fail
  clear hw1
  refine HN1.out.mono ?_
  rintro e w2 ⟨rfl,rfl⟩
  clear HN1
  go_wp2_with fail
  refine HN2.out.mono ?_
  rintro e w2 ⟨rfl,rfl⟩
  clear HN2
  go_wp2_with fail
  refine HN4.out.mono ?_
  rintro e w2 ⟨rfl,rfl⟩
  clear HN4
  go_wp2_with fail
  refine HSTEP.out.mono ?_
  rintro e w2 ⟨hk2,h2⟩
  have HK2:=hid ((KeepR.of (R:=R) HB1.out).trans hk2)
  have HV2:=hid (HV1.out.keep hk2)
  have HA2:=hid (HA1.out.keepR hk2 (by omega))
  clear HSTEP hk2
  rcases X with a | st2
  ·simp only at h2
   subst h2
   exact ⟨rfl,HK2.out,1,.error a,by show pars s 1 .atom st=_;rw [HAT.out,HX.out];rfl,rfl⟩
  obtain ⟨rfl,hr2⟩:=h2
  obtain ⟨hg2,hp2⟩:=step_gs HG0.out.le HX.out
  have HR2:=hid hr2
  have HG2:=hid hg2
  clear hr2 hg2 x0 x1 x2 x3
  go_wp2_with fail
  refine (HPI.out w2 HV2.out).mono ?_
  rintro e w3 ⟨hb3,v,er,rfl,hv3,-⟩
  obtain ⟨rfl,rfl⟩:=hv3 HSP.out
  have HK3:=hid (HK2.out.next hb3)
  have HA3:=hid (HA2.out.below hb3 HA2.out.lt)
  have HR3:=hid (Arr.below HR2.out hb3 (Arr.lt HR2.out))
  clear hb3 hv3
  have o0:=HA3.out.cell (j:=0) (by simp)
  have o1:=HA3.out.cell (j:=1) (by simp)
  have o2:=HA3.out.cell (j:=2) (by simp)
  have o3:=HA3.out.cell (j:=3) (by simp)
  have f0:=HA3.out.frozen 0
  have f1:=HA3.out.frozen 1
  have f2:=HA3.out.frozen 2
  have f3:=HA3.out.frozen 3
  simp only [gE0,gE1] at o0 o1 o2 o3
  go_wp2_with fail
  exact leaf_ret (fu:=1) rfl rfl HK3.out hRw HR3.out HA3.out HG2.out (by omega) (by rw [HAT.out,HX.out];rfl)
 by_cases h6:0<st.now.size/\st.now.data.toList.headD 0=39
 ·have HN1:=hid (is_no R s st trueS w1 h1 HR1.out)
  have HN2:=hid (is_no R s st falseS w1 h2 HR1.out)
  have HN4:=hid (is_no R s st lparS w1 h4 HR1.out)
  have e1':¬st.now.toList=[111,112,101,110]:=tol_ne (x:=openS) hno rfl
  have e1:(st.now.toList==[111,112,101,110])=false:=by rw [beq_eq_false_iff_ne];exact e1'
  have e2':¬st.now.toList=[100,111,110,101]:=tol_ne (x:=doneS) hnd rfl
  have e2:(st.now.toList==[100,111,110,101])=false:=by rw [beq_eq_false_iff_ne];exact (e2')
  obtain ⟨hd0,hd1⟩:=h6
  have hh6:0<st.now.size/\st.now.data.toList.headD 0=39:=⟨hd0,hd1⟩
  rw [head_eq hd0] at hd1
  have e0':¬st.now.toList=[]:=tol_ne (a:=st.now) (x:=⟨#[]⟩) (fun h=>by rw [h] at hd0;exact absurd hd0 (by decide)) rfl
  have e0:(st.now.toList==[])=false:=by rw [beq_eq_false_iff_ne];exact e0'
  have d1:¬48<=(st.now[0].toNat:Int):=by rw [hd1];decide
  have d3:((st.now[0].toNat:Int)==39)=true:=by rw [hd1];rfl
  have i0:(0:Int)<(st.now.size:Int):=by omega
  have hq2:=tok_quote HG0.out.tok hh6.1 hh6.2
  have hsz:=Nat.le_trans HG0.out.short hs
  have wr1:IntKind.i64.wrap ((st.now.size:Int)-1)=((st.now.size-1:Nat):Int):=by rw [wrap_i64 (by omega) (by omega)];omega
  have i1:(1:Int)<=((st.now.size-1:Nat):Int):=by omega
  have i2:((st.now.size-1:Nat):Int)<=(st.now.size:Int):=by omega
  have hAT:∀f,pars s (f+1) .atom st=_:=fun f=>at6 h1 h2 (fun h=>h.elim hno hnd) h4 h5 hh6
  have HAT:=hid hAT
  generalize hq9:st.now.size-1=q9 at *
  clear h1 h2 h4 h5 hno hnd hAT hd1 hh6 hq2 hsz hq9
  go_enter Tryz.func197,Tryz.ntmps197
  go_wp2_with fail
  clear hw1
  refine HN1.out.mono ?_
  rintro e w2 ⟨rfl,rfl⟩
  clear HN1
  go_wp2_with fail
  refine HN2.out.mono ?_
  rintro e w2 ⟨rfl,rfl⟩
  clear HN2
  go_wp2_with fail
  refine HN4.out.mono ?_
  rintro e w2 ⟨rfl,rfl⟩
  clear HN4
  go_wp2_with fail
  refine HSTEP.out.mono ?_
  rintro e w2 ⟨hk2,h2⟩
  have HK2:=hid ((KeepR.of (R:=R) HB1.out).trans hk2)
  have HV2:=hid (HV1.out.keep hk2)
  have HA2:=hid (HA1.out.keepR hk2 (by omega))
  clear HSTEP hk2
  rcases X with a | st2
  ·simp only at h2
   subst h2
   exact ⟨rfl,HK2.out,1,.error a,by show pars s 1 .atom st=_;rw [HAT.out,HX.out];rfl,rfl⟩
  obtain ⟨rfl,hr2⟩:=h2
  obtain ⟨hg2,hp2⟩:=step_gs HG0.out.le HX.out
  have HR2:=hid hr2
  have HG2:=hid hg2
  clear hr2 hg2 x0 x1 x2 x3
  have o0:=HA2.out.cell (j:=0) (by simp)
  have o1:=HA2.out.cell (j:=1) (by simp)
  have o2:=HA2.out.cell (j:=2) (by simp)
  have o3:=HA2.out.cell (j:=3) (by simp)
  have f0:=HA2.out.frozen 0
  have f1:=HA2.out.frozen 1
  have f2:=HA2.out.frozen 2
  have f3:=HA2.out.frozen 3
  simp only [gE0,gE1] at o0 o1 o2 o3
  go_wp2_with fail
  exact leaf_ret (fu:=1) rfl rfl HK2.out hRw HR2.out HA2.out HG2.out (by omega) (by rw [HAT.out,HX.out];rfl)
 by_cases hz:st.now.size=0
 ·have HN1:=hid (is_no R s st trueS w1 h1 HR1.out)
  have HN2:=hid (is_no R s st falseS w1 h2 HR1.out)
  have HN4:=hid (is_no R s st lparS w1 h4 HR1.out)
  have e1':¬st.now.toList=[111,112,101,110]:=tol_ne (x:=openS) hno rfl
  have e1:(st.now.toList==[111,112,101,110])=false:=by rw [beq_eq_false_iff_ne];exact e1'
  have e2':¬st.now.toList=[100,111,110,101]:=tol_ne (x:=doneS) hnd rfl
  have e2:(st.now.toList==[100,111,110,101])=false:=by rw [beq_eq_false_iff_ne];exact (e2')
  have e0':st.now.toList=[]:=by rw [Lib.toList_data];exact List.eq_nil_of_length_eq_zero (by rw [ba_len];exact hz)
  have e0:(st.now.toList==[])=true:=by rw [e0'];rfl
  clear hz
  have hAT:∀f,pars s (f+1) .atom st=_:=fun f=>at7 h1 h2 (fun h=>h.elim hno hnd) h4 h5 h6
  have HAT:=hid hAT
  obtain ⟨X3,hX3⟩:∃X3,(if namedG st.now=true then stepB s st.i else .error st.pos)=X3:=⟨_,rfl⟩
  have hND:=name_walk R s st w1 hs HG0.out.le HR1.out HV1.out
  rw [hX3] at hND
  have HX3:=hid hX3
  have HND:=hid hND
  clear h1 h2 h4 h5 h6 hno hnd hAT hX3 hND
  go_enter Tryz.func197,Tryz.ntmps197
  go_wp2_with fail
  clear hw1
  refine HN1.out.mono ?_
  rintro e w2 ⟨rfl,rfl⟩
  clear HN1
  go_wp2_with fail
  refine HN2.out.mono ?_
  rintro e w2 ⟨rfl,rfl⟩
  clear HN2
  go_wp2_with fail
  refine HN4.out.mono ?_
  rintro e w2 ⟨rfl,rfl⟩
  clear HN4
  go_wp2_with fail
  refine HND.out.mono ?_
  rintro e w4 ⟨hk4,h4⟩
  have HK4:=hid ((KeepR.of (R:=R) HB1.out).trans hk4)
  have HA4:=hid (HA1.out.keepR hk4 (by omega))
  clear HND hk4
  rcases X3 with a | st4
  ·simp only at h4
   subst h4
   exact ⟨rfl,HK4.out,1,.error a,by show pars s 1 .atom st=_;rw [HAT.out,HX3.out];rfl,rfl⟩
  obtain ⟨rfl,hr4⟩:=h4
  obtain ⟨hg4,hp4⟩:=name_gs HG0.out.le HX3.out
  have HR4:=hid hr4
  have HG4:=hid hg4
  clear hr4 hg4 x0 x1 x2 x3
  have o0:=HA4.out.cell (j:=0) (by simp)
  have o1:=HA4.out.cell (j:=1) (by simp)
  have o2:=HA4.out.cell (j:=2) (by simp)
  have o3:=HA4.out.cell (j:=3) (by simp)
  have f0:=HA4.out.frozen 0
  have f1:=HA4.out.frozen 1
  have f2:=HA4.out.frozen 2
  have f3:=HA4.out.frozen 3
  simp only [gE0,gE1] at o0 o1 o2 o3
  go_wp2_with fail
  exact leaf_ret (fu:=1) rfl rfl HK4.out hRw HR4.out HA4.out HG4.out (by omega) (by rw [HAT.out,HX3.out];rfl)
 have hd0:0<st.now.size:=by omega
 have e0':¬st.now.toList=[]:=tol_ne (a:=st.now) (x:=⟨#[]⟩) (fun h=>by rw [h] at hd0;exact absurd hd0 (by decide)) rfl
 have e0:(st.now.toList==[])=false:=by rw [beq_eq_false_iff_ne];exact e0'
 have hh:=head_eq hd0
 have i0:(0:Int)<(st.now.size:Int):=by omega
 have d39:((st.now[0].toNat:Int)==39)=false:=by
  rw [beq_eq_false_iff_ne]
  intro h
  exact h6 ⟨hd0,by rw [hh];exact UInt8.toNat_inj.1 (by have:(39:UInt8).toNat=39:=rfl;omega)⟩
 have hdg:¬(48<=st.now[0].toNat/\st.now[0].toNat<=57):=fun h=>h5 ⟨hd0,by rw [hh];simp only [digitB,decide_eq_true_eq];exact h⟩
 by_cases hc:48<=st.now[0].toNat
 ·have HN1:=hid (is_no R s st trueS w1 h1 HR1.out)
  have HN2:=hid (is_no R s st falseS w1 h2 HR1.out)
  have HN4:=hid (is_no R s st lparS w1 h4 HR1.out)
  have e1':¬st.now.toList=[111,112,101,110]:=tol_ne (x:=openS) hno rfl
  have e1:(st.now.toList==[111,112,101,110])=false:=by rw [beq_eq_false_iff_ne];exact e1'
  have e2':¬st.now.toList=[100,111,110,101]:=tol_ne (x:=doneS) hnd rfl
  have e2:(st.now.toList==[100,111,110,101])=false:=by rw [beq_eq_false_iff_ne];exact (e2')
  have d1:48<=(st.now[0].toNat:Int):=by omega
  have d2:¬(st.now[0].toNat:Int)<=57:=by omega
  clear hc hdg hh hz
  have hAT:∀f,pars s (f+1) .atom st=_:=fun f=>at7 h1 h2 (fun h=>h.elim hno hnd) h4 h5 h6
  have HAT:=hid hAT
  obtain ⟨X3,hX3⟩:∃X3,(if namedG st.now=true then stepB s st.i else .error st.pos)=X3:=⟨_,rfl⟩
  have hND:=name_walk R s st w1 hs HG0.out.le HR1.out HV1.out
  rw [hX3] at hND
  have HX3:=hid hX3
  have HND:=hid hND
  clear h1 h2 h4 h5 h6 hno hnd hAT hX3 hND
  go_enter Tryz.func197,Tryz.ntmps197
  go_wp2_with fail
  clear hw1
  refine HN1.out.mono ?_
  rintro e w2 ⟨rfl,rfl⟩
  clear HN1
  go_wp2_with fail
  refine HN2.out.mono ?_
  rintro e w2 ⟨rfl,rfl⟩
  clear HN2
  go_wp2_with fail
  refine HN4.out.mono ?_
  rintro e w2 ⟨rfl,rfl⟩
  clear HN4
  go_wp2_with fail
  refine HND.out.mono ?_
  rintro e w4 ⟨hk4,h4⟩
  have HK4:=hid ((KeepR.of (R:=R) HB1.out).trans hk4)
  have HA4:=hid (HA1.out.keepR hk4 (by omega))
  clear HND hk4
  rcases X3 with a | st4
  ·simp only at h4
   subst h4
   exact ⟨rfl,HK4.out,1,.error a,by show pars s 1 .atom st=_;rw [HAT.out,HX3.out];rfl,rfl⟩
  obtain ⟨rfl,hr4⟩:=h4
  obtain ⟨hg4,hp4⟩:=name_gs HG0.out.le HX3.out
  have HR4:=hid hr4
  have HG4:=hid hg4
  clear hr4 hg4 x0 x1 x2 x3
  have o0:=HA4.out.cell (j:=0) (by simp)
  have o1:=HA4.out.cell (j:=1) (by simp)
  have o2:=HA4.out.cell (j:=2) (by simp)
  have o3:=HA4.out.cell (j:=3) (by simp)
  have f0:=HA4.out.frozen 0
  have f1:=HA4.out.frozen 1
  have f2:=HA4.out.frozen 2
  have f3:=HA4.out.frozen 3
  simp only [gE0,gE1] at o0 o1 o2 o3
  go_wp2_with fail
  exact leaf_ret (fu:=1) rfl rfl HK4.out hRw HR4.out HA4.out HG4.out (by omega) (by rw [HAT.out,HX3.out];rfl)
 have HN1:=hid (is_no R s st trueS w1 h1 HR1.out)
 have HN2:=hid (is_no R s st falseS w1 h2 HR1.out)
 have HN4:=hid (is_no R s st lparS w1 h4 HR1.out)
 have e1':¬st.now.toList=[111,112,101,110]:=tol_ne (x:=openS) hno rfl
 have e1:(st.now.toList==[111,112,101,110])=false:=by rw [beq_eq_false_iff_ne];exact e1'
 have e2':¬st.now.toList=[100,111,110,101]:=tol_ne (x:=doneS) hnd rfl
 have e2:(st.now.toList==[100,111,110,101])=false:=by rw [beq_eq_false_iff_ne];exact (e2')
 have d1:¬48<=(st.now[0].toNat:Int):=by omega
 clear hc hdg hh hz
 have hAT:∀f,pars s (f+1) .atom st=_:=fun f=>at7 h1 h2 (fun h=>h.elim hno hnd) h4 h5 h6
 have HAT:=hid hAT
 obtain ⟨X3,hX3⟩:∃X3,(if namedG st.now=true then stepB s st.i else .error st.pos)=X3:=⟨_,rfl⟩
 have hND:=name_walk R s st w1 hs HG0.out.le HR1.out HV1.out
 rw [hX3] at hND
 have HX3:=hid hX3
 have HND:=hid hND
 clear h1 h2 h4 h5 h6 hno hnd hAT hX3 hND
 go_enter Tryz.func197,Tryz.ntmps197
 go_wp2_with fail
 clear hw1
 refine HN1.out.mono ?_
 rintro e w2 ⟨rfl,rfl⟩
 clear HN1
 go_wp2_with fail
 refine HN2.out.mono ?_
 rintro e w2 ⟨rfl,rfl⟩
 clear HN2
 go_wp2_with fail
 refine HN4.out.mono ?_
 rintro e w2 ⟨rfl,rfl⟩
 clear HN4
 go_wp2_with fail
 refine HND.out.mono ?_
 rintro e w4 ⟨hk4,h4⟩
 have HK4:=hid ((KeepR.of (R:=R) HB1.out).trans hk4)
 have HA4:=hid (HA1.out.keepR hk4 (by omega))
 clear HND hk4
 rcases X3 with a | st4
 ·simp only at h4
  subst h4
  exact ⟨rfl,HK4.out,1,.error a,by show pars s 1 .atom st=_;rw [HAT.out,HX3.out];rfl,rfl⟩
 obtain ⟨rfl,hr4⟩:=h4
 obtain ⟨hg4,hp4⟩:=name_gs HG0.out.le HX3.out
 have HR4:=hid hr4
 have HG4:=hid hg4
 clear hr4 hg4 x0 x1 x2 x3
 have o0:=HA4.out.cell (j:=0) (by simp)
 have o1:=HA4.out.cell (j:=1) (by simp)
 have o2:=HA4.out.cell (j:=2) (by simp)
 have o3:=HA4.out.cell (j:=3) (by simp)
 have f0:=HA4.out.frozen 0
 have f1:=HA4.out.frozen 1
 have f2:=HA4.out.frozen 2
 have f3:=HA4.out.frozen 3
 simp only [gE0,gE1] at o0 o1 o2 o3
 go_wp2_with fail
 exact leaf_ret (fu:=1) rfl rfl HK4.out hRw HR4.out HA4.out HG4.out (by omega) (by rw [HAT.out,HX3.out];rfl)
end Go.Proofs.YtfbbkmdhnkmonaaGreatDoor
