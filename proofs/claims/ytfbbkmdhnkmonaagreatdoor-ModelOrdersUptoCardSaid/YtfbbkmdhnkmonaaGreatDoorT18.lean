/- Proved, each under the conditions that it names: package guard: Names of a guard that was read; package model: within, turns; package model: leans: its closures; package model: leans. -/
import Derived.Test.YtfbbkmdhnkmonaaGreatDoorT17
set_option maxRecDepth 100000
set_option maxHeartbeats 32000000
namespace Go.Proofs.YtfbbkmdhnkmonaaGreatDoor
open Go.RowKit
theorem NmIs.turn {W W':World} {B:Nat} {Q:Nat->Nat} {va:Nat->Option Addr} {vc:Nat->Nat} {L:Nat->List ByteArray} (h:NmIs W B Q va vc L) {i:Nat} (hi:i<3) {rs:List ByteArray} (hg:W.grownBy W' (blockOf (va i))) (ho:Own W' B 9 1 (va i) (vc i) rs.length (rs.map Value.string)) :
  (∀j,j<3->W'.cell? ⟨Q j,0,none⟩=some (.slice (va j) (L j).length (vc j))/\W'.frozen? ⟨Q j,0,none⟩=false)/\NmIs (W'.setCell ⟨Q i,0,none⟩ (.slice (va i) rs.length (vc i))) B Q va vc (upd L i rs):=by
 have hrowB:∀j,j<3->∀k,va j=some ⟨k,0,none⟩->B<=k/\k<W.heap.size:=fun j hj k e=>(h.own j hj).lt e
 have hQlt:∀j,j<3->Q j<W.heap.size:=fun j hj=>Nat.lt_of_lt_of_le (h.low j hj) h.base
 have hrow:∀b,blockOf (va i)=some b->va i=some ⟨b,0,none⟩:=fun b hb=>by
  rcases (h.own i hi).block with ⟨e,_⟩ | ⟨g,e,_⟩
  ·rw [e] at hb;cases hb
  rw [e] at hb ⊢;cases hb;rfl
 have hkeep:∀k,k<W.heap.size->va i≠some ⟨k,0,none⟩->W'.heap[k]? = W.heap[k]?:=fun k hk hv=>hg.block k hk (fun e=>hv (hrow k e.symm))
 have hQv:∀j,j<3->va i≠some ⟨Q j,0,none⟩:=fun j hj e=>by
  have h2:=(hrowB i hi _ e).1
  have h3:=h.low j hj
  omega
 have hcQ:∀j,j<3->W'.cell? ⟨Q j,0,none⟩=some (.slice (va j) (L j).length (vc j)):=fun j hj=>by
  rw [World.cell?_of_block (hkeep _ (hQlt j hj) (hQv j hj))];exact h.cell j hj
 have hfQ:∀j,j<3->W'.frozen? ⟨Q j,0,none⟩=false:=fun j hj=>by
  rw [World.frozen?_of_block (hkeep _ (hQlt j hj) (hQv j hj))];exact h.frz j hj
 refine ⟨fun j hj=>⟨hcQ j hj,hfQ j hj⟩,fun j hj=>?_,fun j hj=>?_,fun j hj=>?_,h.low,h.far,h.apart,?_⟩
 ·by_cases hji:j=i
  ·subst hji
   rw [upd_at,World.cell?_setCell_same (h:=hcQ j hj)]
  have hne:(⟨Q i,0,none⟩:Addr)≠⟨Q j,0,none⟩:=fun e=>by injection e with e;exact h.far j i hj hi hji e.symm
  rw [upd_ne _ _ hji,World.cell?_setCell_other (h:=hne)]
  exact hcQ j hj
 ·rw [World.frozen?_setCell];exact hfQ j hj
 ·by_cases hji:j=i
  ·subst hji
   rw [upd_at]
   exact ho.setCell (fun g e=>by have:=(hrowB j hj g e).1;have:=h.low j hj;simp only;omega) _
  rw [upd_ne _ _ hji]
  have ho2:=(h.own j hj).keptB (w':=W') (fun g e=>hkeep g (hrowB j hj g e).2 (fun e2=>h.apart j i hj hi hji g e e2))
  exact ho2.setCell (fun g e=>by have:=(hrowB j hj g e).1;have:=h.low i hi;simp only;omega) _
 have:=h.base;have:=hg.size;rw [World.size_setCell];omega
theorem upd_same {α:Type} (f:Nat->α) (i:Nat):upd f i (f i)=f:=by
 funext j
 by_cases h:j=i
 ·subst h;rw [upd_at]
 rw [upd_ne _ _ h]
theorem NmIs.again {W:World} {B:Nat} {Q:Nat->Nat} {va:Nat->Option Addr} {vc:Nat->Nat} {L:Nat->List ByteArray} (h:NmIs W B Q va vc L) {i:Nat} (hi:i<3):NmIs (W.setCell ⟨Q i,0,none⟩ (.slice (va i) (L i).length (vc i))) B Q va vc L:=by
 have:=(h.turn hi (World.grownBy.refl _ _) (h.own i hi)).2
 rw [upd_same] at this
 exact this
theorem ret_names {W:World} {a:Act} {q2 q3 q4:Nat} {u2 u3 u4 u5:Value} {R:Ending->World->Prop} (h2:a.tmps.getD 2 undef=.pointer (some ⟨q2,0,none⟩)) (h3:a.tmps.getD 3 undef=.pointer (some ⟨q3,0,none⟩)) (h4:a.tmps.getD 4 undef=.pointer (some ⟨q4,0,none⟩)) (h5:a.tmps.getD 5 undef=u5) (hd:a.defers=[])
  (c2:W.cell? ⟨q2,0,none⟩=some u2) (c3:W.cell? ⟨q3,0,none⟩=some u3) (c4:W.cell? ⟨q4,0,none⟩=some u4) (hR:R (.returned (.tuple #[u2,u3,u4,u5])) W):bodyPost Tryz.prog Tryz.f38 R .ret a W:=by
 refine bodyPost_ret ?_ hd hR
 subst h5
 have h2':a.tmps[2]?.getD undef=.pointer (some ⟨q2,0,none⟩):=by simpa using h2
 have h3':a.tmps[3]?.getD undef=.pointer (some ⟨q3,0,none⟩):=by simpa using h3
 have h4':a.tmps[4]?.getD undef=.pointer (some ⟨q4,0,none⟩):=by simpa using h4
 simp [results,Tryz.results38,h2',h3',h4',go_sem,c2,c3,c4]
def NamesEnd (t:GT) (w:World) (e:Ending) (w':World):Prop:=Below w.heap.size w w'/\∃v0 v1 v2 l1 l2,e=.returned (.tuple #[v0,v1,v2,.int .i64 0])/\Strs w'.heap.size w' v1 l1/\Strs w'.heap.size w' v2 l2/\l1.length<=1000000/\l2.length<=1000000/\(∀s,s∈l1↔s∈namesOf 6 t)/\∀s,s∈l2↔s∈namesOf 7 t
theorem Names_walk (t:GT) (cs:List Value) (w:World) (hm:t.may) (hd:t.deep<=32) (hs:t.toGD.size<=60000) (h:GIn w t.toGD cs) :
  Calls Tryz.prog 38 #[.agg cs.toArray] w (NamesEnd t w):=by
 obtain ⟨kn,a,l,c,rfl⟩:=gin_kt h
 obtain ⟨w1,hw1⟩:∃w1,(((w.alloc (.cells #[.int .u8 t.kd,.int .i64 kn,.string t.tx,.slice a l c] 80)).alloc (.cells #[.slice none 0 0] 26)).alloc (.cells #[.slice none 0 0] 26)).alloc (.cells #[.slice none 0 0] 26)=w1:=⟨_,rfl⟩
 have hb1:Below w.heap.size w w1:=hw1▸((((Below.refl _ _).alloc (Nat.le_refl _) _).alloc (by rw [size_alloc];omega) _).alloc (by rw [size_alloc,size_alloc];omega) _).alloc (by rw [size_alloc,size_alloc,size_alloc];omega) _
 have hg1:Arr w1 w.heap.size 80 [.int .u8 t.kd,.int .i64 kn,.string t.tx,.slice a l c]:=hw1▸(((Arr.new w _ _).alloc _).alloc _).alloc _
 have hq0:Arr w1 (w.heap.size+1) 26 [.slice none 0 0]:=hw1▸((show Arr _ (w.heap.size+1) _ _ from ⟨alloc_at (by rw [size_alloc])⟩).alloc _).alloc _
 have hq1:Arr w1 (w.heap.size+1+1) 26 [.slice none 0 0]:=hw1▸(show Arr _ (w.heap.size+1+1) _ _ from ⟨alloc_at (by rw [size_alloc,size_alloc])⟩).alloc _
 have hq2:Arr w1 (w.heap.size+1+1+1) 26 [.slice none 0 0]:=hw1▸⟨alloc_at (by rw [size_alloc,size_alloc,size_alloc])⟩
 have hz1:w1.heap.size=w.heap.size+1+1+1+1:=by rw [<-hw1,size_alloc,size_alloc,size_alloc,size_alloc]
 have HA:=hid (asked_may hm hd hs (h.keepB hb1))
 obtain ⟨z0,z1,z2,z3⟩:=box4 hg1 (Below.refl _ _)
 have HQ0:=hid hq0
 have HQ1:=hid hq1
 have HQ2:=hid hq2
 have HB1:=hid hb1
 have HW1:=hid hw1
 have HZ1:=hid hz1
 have HM:=hid hm
 have HS:=hid hs
 generalize hQE:NamesEnd t w=QE
 have HQE:=hid hQE
 clear h hb1 hg1 hq0 hq1 hq2 hw1 hz1 hm hd hs hQE
 go_enter Tryz.func38,Tryz.ntmps38
 go_upto_region 1 with fail
 rw [HW1.out]
 go_wp2_with fail
 refine HA.out.mono ?_
 rintro e w2 ⟨⟨u,hu,rfl⟩,hb2⟩
 obtain ⟨T,p,rfl⟩:=hu.iface
 clear z0 z1 z2 z3 HA
 have HU:=hid hu
 have HB12:=hid hb2
 clear hu hb2
 obtain ⟨w3,hw3⟩:∃w3,(w2.alloc (.cells #[.nilFunc] 136)).setCell ⟨w2.heap.size,0,none⟩ (Value.func (.func 83) #[] #[.pointer (some ⟨w.heap.size+1,0,none⟩),.pointer (some ⟨w.heap.size+1+1,0,none⟩),.pointer (some ⟨w.heap.size+1+1+1,0,none⟩),.pointer (some ⟨w2.heap.size,0,none⟩)])=w3:=⟨_,rfl⟩
 have hA0:Arr (w2.alloc (.cells #[.nilFunc] 136)) w2.heap.size 136 [.nilFunc]:=Arr.new w2 _ _
 have hst:(store ⟨w2.heap.size,0,none⟩ (Value.func (.func 83) #[] #[.pointer (some ⟨w.heap.size+1,0,none⟩),.pointer (some ⟨w.heap.size+1+1,0,none⟩),.pointer (some ⟨w.heap.size+1+1+1,0,none⟩),.pointer (some ⟨w2.heap.size,0,none⟩)])).run Tryz.prog (w2.alloc (.cells #[.nilFunc] 136))=.ok () w3:=by
  rw [run_store _ _ _ _ _ rfl]
  have h1:=hA0.cell (j:=0) (by simp)
  have h2:=hA0.frozen 0
  simp only [h1,h2,hw3]
  rfl
 have hA3:Arr w3 w2.heap.size 136 [(Value.func (.func 83) #[] #[.pointer (some ⟨w.heap.size+1,0,none⟩),.pointer (some ⟨w.heap.size+1+1,0,none⟩),.pointer (some ⟨w.heap.size+1+1+1,0,none⟩),.pointer (some ⟨w2.heap.size,0,none⟩)])]:=hw3▸hA0.set 0 (Value.func (.func 83) #[] #[.pointer (some ⟨w.heap.size+1,0,none⟩),.pointer (some ⟨w.heap.size+1+1,0,none⟩),.pointer (some ⟨w.heap.size+1+1+1,0,none⟩),.pointer (some ⟨w2.heap.size,0,none⟩)])
 have hb23:Below w2.heap.size w2 w3:=hw3▸((Below.refl w2.heap.size w2).alloc (Nat.le_refl _) _).setCell (p:=⟨w2.heap.size,0,none⟩) (Nat.le_refl _) _
 have hz3:w3.heap.size=w2.heap.size+1:=by rw [<-hw3,World.size_setCell,size_alloc]
 have hb13:=HB12.out.trans (hb23.mono HB12.out.size)
 have hzz:=HZ1.out
 have hzs:=HB12.out.size
 have cF:=hA3.cell (j:=0) (by simp)
 simp only [gE0] at cF
 let Q:Nat->Nat:=fun i=>w.heap.size+1+i
 have hQ0:Arr w3 (Q 0) 26 [.slice none 0 0]:=HQ0.out.below hb13 HQ0.out.lt
 have hQ1:Arr w3 (Q 1) 26 [.slice none 0 0]:=HQ1.out.below hb13 HQ1.out.lt
 have hQ2:Arr w3 (Q 2) 26 [.slice none 0 0]:=HQ2.out.below hb13 HQ2.out.lt
 have hQA:∀i,i<3->Arr w3 (Q i) 26 [.slice none 0 0]:=fun i hi=>by
  match i,hi with
  | 0,_=>exact hQ0
  | 1,_=>exact hQ1
  | 2,_=>exact hQ2
 have hN3:NmIs w3 w3.heap.size Q (fun _=>none) (fun _=>0) (fun _=>[]) :=
  ⟨fun i hi=>(hQA i hi).cell (j:=0) (by simp),fun i hi=>(hQA i hi).frozen 0,fun i _=>Own.nil _ _ _ _,fun i hi=>(hQA i hi).lt,fun i j _ _ hij e=>hij (by simp only [Q] at e;omega),fun i j _ _ _ g e=>(by cases e),Nat.le_refl _⟩
 have hNW:=names_walk Q w2.heap.size w3.heap.size ⟨by omega,fun i hi=>by simp only [Q];omega⟩ t _ w3 (fun _=>none) (fun _=>0) (fun _=>[]) HM.out HU.out (fun i hi=>by have:=HS.out;simp;omega) cF hN3
 have HNW:=hid hNW
 have HB13:=hid (hb13)
 have HZ3:=hid hz3
 clear hNW hN3 hQA hQ0 hQ1 hQ2 hA3 hA0 hb23 hb13 hw3 HQ0 HQ1 HQ2
 go_wp2_with fail
 refine HNW.out.mono ?_
 rintro e w4 ⟨rfl,va,vc,hN4,hK4⟩
 have hL4:(fun i=>(fun _=>([]:List ByteArray)) i++namesOf (5+i) t)=fun i=>namesOf (5+i) t:=by funext i;simp
 rw [hL4] at hN4
 have hsz34:=hK4.size
 have hb34:Below w.heap.size w w4:=by
  have hbw:=HB1.out.trans (HB13.out.mono HB1.out.size)
  have hws:=hbw.size
  refine ⟨hK4.os.trans hbw.os,hK4.tape.trans hbw.tape,hK4.output.trans hbw.output,by omega,fun k hk=>?_⟩
  rw [hK4.block k (by omega) (fun i hi=>by simp only [Q];omega) (fun i _=>by simp),hbw.block k hk]
 obtain ⟨w5,hw5⟩:∃w5,w4.alloc (.cells #[.pointer (some ⟨w.heap.size+1,0,none⟩),.pointer (some ⟨w.heap.size+1+1,0,none⟩),.pointer (some ⟨w.heap.size+1+1+1,0,none⟩)] 142)=w5:=⟨_,rfl⟩
 have hP:Arr w5 w4.heap.size 142 [.pointer (some ⟨w.heap.size+1,0,none⟩),.pointer (some ⟨w.heap.size+1+1,0,none⟩),.pointer (some ⟨w.heap.size+1+1+1,0,none⟩)]:=hw5▸Arr.new w4 _ _
 have hb45:Below w4.heap.size w4 w5:=hw5▸(Below.refl _ _).alloc (Nat.le_refl _) _
 have hN5:=hN4.below hb45
 have hPc:∀i,i<3->w5.cell? ⟨w4.heap.size,i,none⟩=some (.pointer (some ⟨Q i,0,none⟩)):=fun i hi=>by
  match i,hi with
  | 0,_=>exact hP.cell (j:=0) (by simp)
  | 1,_=>exact hP.cell (j:=1) (by simp)
  | 2,_=>exact hP.cell (j:=2) (by simp)
 have HN5:=hid hN5
 have HPC:=hid hPc
 have HB5:=hid (hb34.trans (hb45.mono hb34.size))
 have HPL:=hid hP.lt
 have HVA:Hid (∀i,i<3->∀g,va i=some ⟨g,0,none⟩->w3.heap.size<=g/\g<w4.heap.size):=fun i hi g e=>(hN4.own i hi).lt e
 have HW34:=hid hsz34
 have hbase:w.heap.size<=w3.heap.size:=by have:=HZ3.out;omega
 have hq3:∀i,i<3->Q i<w3.heap.size:=fun i hi=>hN4.low i hi
 have HQ3:=hid hq3
 have HW5:=hid hw5
 have hlen:∀i,(namesOf (5+i) t).length<=60000:=fun i=>Nat.le_trans (namesOf_len _ t) HS.out
 have HLEN:=hid hlen
 clear hN4 hK4 hL4 hsz34 hb34 hP hb45 hN5 hPc hw5 hst cF hq3 hlen HNW
 go_upto_region 8 with fail
 rw [HW5.out]
 go_loopw [24] (fun i wr=>∃m:Nat,m<=3/\i=.int .i64 (m:Int)/\Hid (∃L,NmIs wr w3.heap.size Q va vc L/\∀i,i<3->(∀s,s∈L i↔s∈namesOf (5+i) t)/\(L i).length<=60000)/\Hid (∀i,i<3->wr.cell? ⟨w4.heap.size,i,none⟩=some (.pointer (some ⟨Q i,0,none⟩)))/\Hid (Below w.heap.size w wr)) (fun i _=>3-(intOf i).toNat)
 case atStart=>exact ⟨0,by omega,rfl,⟨_,HN5.out,fun i _=>⟨fun s=>Iff.rfl,HLEN.out i⟩⟩,HPC.out,HB5.out⟩
 obtain ⟨m,hm3,rfl,HS5,HP5,HB⟩:=hrel
 obtain ⟨L,hN,hL⟩:=HS5.out
 by_cases hml:m<3
 ·have i1:(m:Int)<3:=by omega
  have i2:(0:Int)<=(m:Int):=by omega
  have c0:=HP5.out m hml
  have cQ:=hN.cell m hml
  obtain ⟨qm,hqm⟩:∃qm,Q m=qm:=⟨_,rfl⟩
  have hSo:=sort_strs (hN.own m hml) (by have:=(hL m hml).2;omega)
  have HSO:=hid hSo
  have HN:=hid hN
  have HL:=hid hL
  have HML:=hid hml
  have HQM:=hid hqm
  rw [hqm] at c0 cQ
  clear hSo hN hL hml hqm HS5
  go_wp2_with fail
  refine HSO.out.mono ?_
  rintro e W1 ⟨rfl,rs1,hl1,hm1,ho1,hg1⟩
  have ho1':=ho1
  rw [hl1] at ho1'
  have cQ1:=((HN.out.turn HML.out hg1 ho1).1 m HML.out).1
  rw [HQM.out] at cQ1
  have hCo:=compact_strs ho1 (by have:=(HL.out m HML.out).2;omega)
  rw [hl1] at hCo
  have HCO:=hid hCo
  have HM1:=hid hm1
  have HG1:=hid hg1
  have HL1:=hid hl1
  clear hCo hm1 hg1 hl1 ho1 ho1' HSO cQ
  go_wp2_with fail
  refine HCO.out.mono ?_
  rintro e W2 ⟨rs2,rfl,hl2,hm2,ho2,hg2⟩
  have hg12:=HG1.out.trans hg2
  obtain ⟨hcf,hN6⟩:=HN.out.turn HML.out hg12 ho2
  obtain ⟨cQ2,fQ2⟩:=hcf m HML.out
  rw [HQM.out] at cQ2 fQ2 hN6
  have HS6:Hid (∃L,NmIs (W2.setCell ⟨qm,0,none⟩ (.slice (va m) rs2.length (vc m))) w3.heap.size Q va vc L/\∀i,i<3->(∀s,s∈L i↔s∈namesOf (5+i) t)/\(L i).length<=60000):=by
   refine ⟨_,hN6,fun i hi=>?_⟩
   by_cases him:i=m
   ·subst him
    rw [upd_at]
    refine ⟨fun s=>?_,?_⟩
    ·rw [hm2,HM1.out];exact (HL.out i hi).1 s
    have:=(HL.out i hi).2;have:=HL1.out;omega
   rw [upd_ne _ _ him];exact HL.out i hi
  have hrow:∀b,blockOf (va m)=some b->w3.heap.size<=b/\b<w4.heap.size:=fun b hb=>by
   rcases (HN.out.own m HML.out).block with ⟨e,_⟩ | ⟨g,e,_⟩
   ·rw [e] at hb;cases hb
   rw [e] at hb;cases hb
   exact HVA.out m HML.out _ e
  have hqlow:=HQ3.out m HML.out
  rw [HQM.out] at hqlow
  have hw34:=HW34.out
  have HP6:Hid (∀i,i<3->(W2.setCell ⟨qm,0,none⟩ (.slice (va m) rs2.length (vc m))).cell? ⟨w4.heap.size,i,none⟩=some (.pointer (some ⟨Q i,0,none⟩))):=fun i hi=>by
   have hne:(⟨qm,0,none⟩:Addr)≠⟨w4.heap.size,i,none⟩:=fun e=>by injection e with e;omega
   rw [World.cell?_setCell_other (h:=hne)]
   have hlt:=World.block_lt_of_cell? wr _ (HP5.out i hi)
   rw [World.cell?_of_block (hg12.block _ hlt (fun e=>by have:=(hrow _ e.symm).2;simp only at this;omega))]
   exact HP5.out i hi
  have hqge:w.heap.size<=qm:=by rw [<-HQM.out];simp only [Q];omega
  have HB6:Hid (Below w.heap.size w (W2.setCell ⟨qm,0,none⟩ (.slice (va m) rs2.length (vc m)))):=(HB.out.grown hg12 HB.out.size (fun j hj=>by have:=(hrow j hj).1;omega)).setCell (p:=⟨qm,0,none⟩) hqge _
  have wr1:IntKind.i64.wrap ((m:Int)+1)=(m:Int)+1:=wrap_i64 (by omega) (by have:=HML.out;omega)
  clear hl2 hm2 ho2 hg2 hg12 hcf hN6 hrow hqlow hqge HCO HM1 HG1 HL1 cQ1 hw34
  go_wp2_with fail
  refine ⟨⟨m+1,by have:=HML.out;omega,by go_num,HS6,HP6,HB6⟩,by simp only [intOf];have:=HML.out;omega⟩
 obtain rfl:m=3:=by omega
 have c2:wr.cell? ⟨w.heap.size+1,0,none⟩=some (.slice (va 0) (L 0).length (vc 0)):=hN.cell 0 (by omega)
 have c3:wr.cell? ⟨w.heap.size+1+1,0,none⟩=some (.slice (va 1) (L 1).length (vc 1)):=hN.cell 1 (by omega)
 have c4:wr.cell? ⟨w.heap.size+1+1+1,0,none⟩=some (.slice (va 2) (L 2).length (vc 2)):=hN.cell 2 (by omega)
 have f2:wr.frozen? ⟨w.heap.size+1,0,none⟩=false:=hN.frz 0 (by omega)
 have f3:wr.frozen? ⟨w.heap.size+1+1,0,none⟩=false:=hN.frz 1 (by omega)
 have f4:wr.frozen? ⟨w.heap.size+1+1+1,0,none⟩=false:=hN.frz 2 (by omega)
 have hF:=((hN.again (i:=0) (by omega)).again (i:=1) (by omega)).again (i:=2) (by omega)
 have HF:Hid (NmIs (((wr.setCell ⟨w.heap.size+1,0,none⟩ (.slice (va 0) (L 0).length (vc 0))).setCell ⟨w.heap.size+1+1,0,none⟩ (.slice (va 1) (L 1).length (vc 1))).setCell ⟨w.heap.size+1+1+1,0,none⟩ (.slice (va 2) (L 2).length (vc 2))) w3.heap.size Q va vc L):=hF
 have HBF:Hid (Below w.heap.size w (((wr.setCell ⟨w.heap.size+1,0,none⟩ (.slice (va 0) (L 0).length (vc 0))).setCell ⟨w.heap.size+1+1,0,none⟩ (.slice (va 1) (L 1).length (vc 1))).setCell ⟨w.heap.size+1+1+1,0,none⟩ (.slice (va 2) (L 2).length (vc 2)))) :=
  ((HB.out.setCell (p:=⟨w.heap.size+1,0,none⟩) (by simp only;omega) _).setCell (p:=⟨w.heap.size+1+1,0,none⟩) (by simp only;omega) _).setCell (p:=⟨w.heap.size+1+1+1,0,none⟩) (by simp only;omega) _
 have HL:=hid hL
 clear hN hL hF HS5
 go_wp2_with fail
 refine ret_names (q2:=w.heap.size+1) (q3:=w.heap.size+1+1) (q4:=w.heap.size+1+1+1) rfl rfl rfl rfl rfl (HF.out.cell 0 (by omega)) (HF.out.cell 1 (by omega)) (HF.out.cell 2 (by omega)) ?_
 rw [<-HQE.out]
 exact ⟨HBF.out,_,_,_,L 1,L 2,rfl,own_strs (HF.out.own 1 (by omega)),own_strs (HF.out.own 2 (by omega)),by have:=(HL.out 1 (by omega)).2;omega,by have:=(HL.out 2 (by omega)).2;omega,(HL.out 1 (by omega)).1,(HL.out 2 (by omega)).1⟩
def InOk (md:ModelD):Prop:=∀n (h:n<md.stages.length),-1<=md.stages[n].inn/\md.stages[n].inn<n
theorem withinF_neg (md:ModelD) (other:Int) (f:Nat) {n:Int} (h:n<0):withinF md other f n=false:=by
 cases f with
 | zero=>rfl
 | succ f=>unfold withinF;rw [if_pos h]
theorem withinF_fuel {md:ModelD} (hi:InOk md) (other:Int):∀(f g:Nat) (n:Int),n<f->n<g->withinF md other f n=withinF md other g n
 | 0,g,n,h,_=>by rw [withinF_neg _ _ _ (by omega),withinF_neg _ _ _ (by omega)]
 | f+1,0,n,_,h=>by rw [withinF_neg _ _ _ (by omega),withinF_neg _ _ _ (by omega)]
 | f+1,g+1,n,h1,h2=>by
  unfold withinF
  split
  ·rfl
  split
  ·rfl
  cases hs:md.stages[n.toNat]? with
  | none=>rfl
  | some s =>
   have hl:=lt_of_some hs
   rw [List.getElem?_eq_getElem hl] at hs
   injection hs with hs
   have:=hi _ hl
   rw [hs] at this
   exact withinF_fuel hi other f g s.inn (by omega) (by omega)
theorem withinB_neg (md:ModelD) (other:Int) {n:Int} (h:n<0):withinB md n other=false:=withinF_neg _ _ _ h
theorem withinB_same (md:ModelD) {n:Int} (h:0<=n):withinB md n n=true:=by
 unfold withinB withinF
 rw [if_neg (by omega),if_pos rfl]
theorem withinB_step {md:ModelD} (hi:InOk md) {n:Nat} (h:n<md.stages.length) {other:Int} (hne:(n:Int)≠other):withinB md n other=withinB md md.stages[n].inn other:=by
 have h1:=hi n h
 have h2:withinB md n other=withinF md other md.stages.length md.stages[n].inn:=by
  unfold withinB
  rw [withinF,if_neg (by omega),if_neg hne,Int.toNat_natCast,List.getElem?_eq_getElem h]
 rw [h2]
 exact withinF_fuel hi other _ _ _ (by omega) (by omega)
theorem within_walk (md:ModelD) (v:ModelV) (n other:Int) (w:World) (hi:InOk md) (hn:-1<=n/\n<md.stages.length) (hM:ModelM false (From 0) w md v) :
  Calls Tryz.prog 73 #[.agg (v.cs md).toArray,.int .i64 n,.int .i64 other] w (fun e w'=>e=.returned (.bool (withinB md n other))/\Below w.heap.size w w'):=by
 obtain ⟨w1,hw1⟩:∃w1,w.alloc (.cells (v.cs md).toArray 31)=w1:=⟨_,rfl⟩
 have hb1:Below w.heap.size w w1:=hw1▸(Below.refl _ _).alloc (Nat.le_refl _) _
 have hx1:Arr w1 w.heap.size 31 (v.cs md):=hw1▸Arr.new w (v.cs md) _
 have HM:=hid (hM.grow hb1)
 have HB1:=hid hb1
 have HW1:=hid hw1
 have HIO:=hid hi
 obtain ⟨y0,y1,y2,y3,y4,y5⟩:=box6 hx1 (Below.refl _ _)
 obtain ⟨q,hq⟩:∃q,withinB md n other=q:=⟨_,rfl⟩
 rw [hq]
 have HQ:=hid hq
 clear hM hb1 hx1 hw1 hq hi
 go_enter Tryz.func73,Tryz.ntmps73
 go_upto_region 1 with fail
 rw [HW1.out]
 go_loopw [1] (fun i wr=>∃m:Int,-1<=m/\m<md.stages.length/\i=.int .i64 m/\wr=w1/\Hid (withinB md m other=q)) (fun i _=>(intOf i+1).toNat)
 case atStart=>exact ⟨n,hn.1,hn.2,rfl,rfl,HQ.out⟩
 obtain ⟨m,hm1,hm2,rfl,rfl,HS⟩:=hrel
 by_cases h0:m<0
 ·have i1:¬(0:Int)<=m:=by omega
  have HQ2:Hid (false=q):=by show _=_;rw [<-HS.out,withinB_neg _ _ h0]
  go_wp2_with fail
  go_ret
  exact ⟨ret_bool HQ2.out,HB1.out⟩
 obtain ⟨k,rfl⟩:∃k:Nat,m=k:=⟨m.toNat,by omega⟩
 have i1:(0:Int)<=(k:Int):=by omega
 by_cases heq:(k:Int)=other
 ·subst heq
  have HQ2:Hid (true=q):=by show _=_;rw [<-HS.out,withinB_same _ i1]
  go_wp2_with fail
  go_ret
  exact ⟨ret_bool HQ2.out,HB1.out⟩
 have e1:((k:Int)==other)=false:=by simpa using heq
 have hkl:k<md.stages.length:=by omega
 obtain ⟨b,off,ha,hbl,d1,e1',d2,e2,-,-,-,c1,-,-,-,-,-⟩:=stage_at HM.out hkl
 have hin:=HIO.out k hkl
 have HS2:Hid (withinB md (md.stages[k]'hkl).inn other=q):=by show _=_;rw [<-HS.out,withinB_step HIO.out hkl heq]
 obtain ⟨x,hx⟩:∃x,(md.stages[k]'hkl).inn=x:=⟨_,rfl⟩
 rw [hx] at c1 HS2 hin
 have hy:=y3
 rw [ha] at hy
 have HIN:=hid hin
 clear hx ha heq HS y3 hin
 go_wp2_with fail
 refine ⟨⟨x,by have:=HIN.out;omega,by have:=HIN.out;omega,rfl,by first | trivial | rfl,HS2⟩,by simp only [intOf];have:=HIN.out;omega⟩
theorem turns_walk (md:ModelD) (v:ModelV) (p:Pl) (n:Int) (o c:Bool) (w:World) (hi:InOk md) (hn:-1<=n/\n<md.stages.length) (hM:ModelM false (From 0) w md v) :
  Calls Tryz.prog 34 #[.agg (v.cs md).toArray,plV p,.int .i64 n,.bool o,.bool c] w (fun e w'=>e=.returned (.bool (turnsB md p n o c))/\Below w.heap.size w w'):=by
 obtain ⟨p0,p1,p2⟩:=p
 simp only [plV]
 obtain ⟨wa,hwa⟩:∃wa,w.alloc (.cells (v.cs md).toArray 31)=wa:=⟨_,rfl⟩
 obtain ⟨w1,hw1⟩:∃w1,wa.alloc (.cells #[.int .i64 p0,.int .i64 p1,.int .i64 p2] 33)=w1:=⟨_,rfl⟩
 have hza:wa.heap.size=w.heap.size+1:=by rw [<-hwa,size_alloc]
 have hba:Below w.heap.size w wa:=hwa▸(Below.refl _ _).alloc (Nat.le_refl _) _
 have hb1:Below w.heap.size w w1:=hw1▸hba.alloc (by omega) _
 have hx1:Arr w1 w.heap.size 31 (v.cs md):=hw1▸(show Arr wa _ _ _ from hwa▸Arr.new w (v.cs md) _).alloc _
 have hp1:Arr w1 (w.heap.size+1) 33 [.int .i64 p0,.int .i64 p1,.int .i64 p2]:=by
  have:=Arr.new wa [.int .i64 p0,.int .i64 p1,.int .i64 p2] 33
  rw [hza] at this
  exact hw1▸this
 have HC:=hid (within_walk md v n p1 w1 hi hn (hM.grow hb1))
 have HB1:=hid hb1
 have HWA:=hid hwa
 have HW1:=hid hw1
 obtain ⟨y0,y1,y2,y3,y4,y5⟩:=box6 hx1 (Below.refl _ _)
 have z0:=hp1.cell (j:=0) (by simp)
 have z1:=hp1.cell (j:=1) (by simp)
 simp only [gE0,gE1] at z0 z1
 obtain ⟨q,hq⟩:∃q,turnsB md (p0,p1,p2) n o c=q:=⟨_,rfl⟩
 obtain ⟨r,hr⟩:∃r,withinB md n p1=r:=⟨_,rfl⟩
 rw [hq]
 rw [hr] at HC
 simp only [turnsB,hr] at hq
 have HQ:=hid hq
 clear hM hba hb1 hx1 hp1 hwa hw1 hq hr hi hn hza
 cases o with
 | true =>
  by_cases h1:p0=1
  ·subst h1
   by_cases h2:p1=n
   ·subst h2
    have HQ2:Hid (true=q):=by show _=_;rw [<-HQ.out];simp
    go_enter Tryz.func34,Tryz.ntmps34
    go_upto_region 1 with fail
    rw [HWA.out,HW1.out]
    go_wp2_with fail
    go_ret
    exact ⟨ret_bool HQ2.out,HB1.out⟩
   have e2:(p1==n)=false:=by simpa using h2
   have HQ2:Hid (false=q):=by show _=_;rw [<-HQ.out];simp [h2]
   clear h2
   cases c with
   | true =>
    go_enter Tryz.func34,Tryz.ntmps34
    go_upto_region 1 with fail
    rw [HWA.out,HW1.out]
    go_wp2_with fail
    go_ret
    exact ⟨ret_bool HQ2.out,HB1.out⟩
   | false =>
    go_enter Tryz.func34,Tryz.ntmps34
    go_upto_region 1 with fail
    rw [HWA.out,HW1.out]
    go_wp2_with fail
    go_ret
    exact ⟨ret_bool HQ2.out,HB1.out⟩
  have e1:(p0==1)=false:=by simpa using h1
  cases c with
  | true =>
   by_cases h3:p0=2
   ·subst h3
    have HQ2:Hid (r=q):=by show _=_;rw [<-HQ.out];simp
    go_enter Tryz.func34,Tryz.ntmps34
    go_upto_region 1 with fail
    rw [HWA.out,HW1.out]
    go_wp2_with fail
    refine HC.out.mono ?_
    rintro e w2 ⟨rfl,hb2⟩
    have HB2:=hid (HB1.out.trans (hb2.mono HB1.out.size))
    clear hb2 HC
    go_wp2_with fail
    go_ret
    exact ⟨ret_bool HQ2.out,HB2.out⟩
   have e3:(p0==2)=false:=by simpa using h3
   have HQ2:Hid (false=q):=by show _=_;rw [<-HQ.out];simp [h3,h1]
   clear h3
   go_enter Tryz.func34,Tryz.ntmps34
   go_upto_region 1 with fail
   rw [HWA.out,HW1.out]
   go_wp2_with fail
   go_ret
   exact ⟨ret_bool HQ2.out,HB1.out⟩
  | false =>
   have HQ2:Hid (false=q):=by show _=_;rw [<-HQ.out];simp [h1]
   go_enter Tryz.func34,Tryz.ntmps34
   go_upto_region 1 with fail
   rw [HWA.out,HW1.out]
   go_wp2_with fail
   go_ret
   exact ⟨ret_bool HQ2.out,HB1.out⟩
 | false =>
  cases c with
  | true =>
   by_cases h3:p0=2
   ·subst h3
    have HQ2:Hid (r=q):=by show _=_;rw [<-HQ.out];simp
    go_enter Tryz.func34,Tryz.ntmps34
    go_upto_region 1 with fail
    rw [HWA.out,HW1.out]
    go_wp2_with fail
    refine HC.out.mono ?_
    rintro e w2 ⟨rfl,hb2⟩
    have HB2:=hid (HB1.out.trans (hb2.mono HB1.out.size))
    clear hb2 HC
    go_wp2_with fail
    go_ret
    exact ⟨ret_bool HQ2.out,HB2.out⟩
   have e3:(p0==2)=false:=by simpa using h3
   have HQ2:Hid (false=q):=by show _=_;rw [<-HQ.out];simp [h3]
   clear h3
   go_enter Tryz.func34,Tryz.ntmps34
   go_upto_region 1 with fail
   rw [HWA.out,HW1.out]
   go_wp2_with fail
   go_ret
   exact ⟨ret_bool HQ2.out,HB1.out⟩
  | false =>
   have HQ2:Hid (false=q):=by show _=_;rw [<-HQ.out];simp
   go_enter Tryz.func34,Tryz.ntmps34
   go_upto_region 1 with fail
   rw [HWA.out,HW1.out]
   go_wp2_with fail
   go_ret
   exact ⟨ret_bool HQ2.out,HB1.out⟩
structure BoxM (md:ModelD) (v:ModelV) (mb:Nat) (b:Pl) (pb:Nat) (W:World):Prop where
 m0:W.cell? ⟨mb,0,none⟩=some (.string md.name)
 m1:W.cell? ⟨mb,1,none⟩=some (.slice v.a1 md.attrs.length v.c1)
 m2:W.cell? ⟨mb,2,none⟩=some (.slice v.a2 md.events.length v.c2)
 m3:W.cell? ⟨mb,3,none⟩=some (.slice v.a3 md.stages.length v.c3)
 m4:W.cell? ⟨mb,4,none⟩=some (.slice v.a4 md.stones.length v.c4)
 m5:W.cell? ⟨mb,5,none⟩=some (.slice v.a5 md.apart.length v.c5)
 p0:W.cell? ⟨pb,0,none⟩=some (.int .i64 b.1)
 p1:W.cell? ⟨pb,1,none⟩=some (.int .i64 b.2.1)
 p2:W.cell? ⟨pb,2,none⟩=some (.int .i64 b.2.2)
theorem BoxM.below {md:ModelD} {v:ModelV} {mb:Nat} {b:Pl} {pb:Nat} {W W':World} (h:BoxM md v mb b pb W) (hb:Below W.heap.size W W'):BoxM md v mb b pb W' :=
 ⟨cellBelow2 hb h.m0,cellBelow2 hb h.m1,cellBelow2 hb h.m2,cellBelow2 hb h.m3,cellBelow2 hb h.m4,cellBelow2 hb h.m5,cellBelow2 hb h.p0,cellBelow2 hb h.p1,cellBelow2 hb h.p2⟩
theorem leans1_walk (md:ModelD) (v:ModelV) (mb:Nat) (b:Pl) (pb:Nat) (s:ByteArray) (W:World) (hz:md.Sml) (hi:InOk md) (hX:BoxM md v mb b pb W) (hM:ModelM false (From 0) W md v) :
  Calls Tryz.prog 40 #[.string s,.pointer (some ⟨mb,0,none⟩),.pointer (some ⟨pb,0,none⟩)] W (fun e w'=>e=.returned (.bool (turnsB md b (stageIx md s) true true))/\Below W.heap.size W w'):=by
 obtain ⟨i,hix⟩:∃i,stageIx md s=i:=⟨_,rfl⟩
 have hile:=stageIx_le md s
 rw [hix] at hile
 have HSt:=hid (fun W' (h:Below W.heap.size W W')=>modelStage md v s W' hz.stages (hM.grow h))
 have HTu:=hid (fun W' (h:Below W.heap.size W W')=>turns_walk md v b i true true W' hi hile (hM.grow h))
 simp only [hix] at HSt
 rw [hix]
 obtain ⟨q,hq⟩:∃q,turnsB md b i true true=q:=⟨_,rfl⟩
 simp only [hq] at HTu
 rw [hq]
 obtain ⟨b0,b1,b2⟩:=b
 simp only [plV] at HTu
 have HSW:Hid (∀W',Below W.heap.size W W'->(Below W.heap.size W W'/\W'.cell? ⟨mb,0,none⟩=some (.string md.name)/\W'.cell? ⟨mb,1,none⟩=some (.slice v.a1 md.attrs.length v.c1)/\W'.cell? ⟨mb,2,none⟩=some (.slice v.a2 md.events.length v.c2)/\W'.cell? ⟨mb,3,none⟩=some (.slice v.a3 md.stages.length v.c3) /\
   W'.cell? ⟨mb,4,none⟩=some (.slice v.a4 md.stones.length v.c4)/\W'.cell? ⟨mb,5,none⟩=some (.slice v.a5 md.apart.length v.c5)/\W'.cell? ⟨pb,0,none⟩=some (.int .i64 b0)/\W'.cell? ⟨pb,1,none⟩=some (.int .i64 b1)/\W'.cell? ⟨pb,2,none⟩=some (.int .i64 b2))):=fun W' hb =>
  have h:=hX.below hb
  ⟨hb,h.m0,h.m1,h.m2,h.m3,h.m4,h.m5,h.p0,h.p1,h.p2⟩
 have hq0:=(Below.refl W.heap.size W).drew
 clear hX hM hz hi hile hix hq
 go_enter Tryz.func40,Tryz.ntmps40
 go_upto_region 1 with fail
 go_region_held3 (fun W'=>Below W.heap.size W W'/\W'.cell? ⟨mb,0,none⟩=some (.string md.name)/\W'.cell? ⟨mb,1,none⟩=some (.slice v.a1 md.attrs.length v.c1)/\W'.cell? ⟨mb,2,none⟩=some (.slice v.a2 md.events.length v.c2)/\W'.cell? ⟨mb,3,none⟩=some (.slice v.a3 md.stages.length v.c3) /\
   W'.cell? ⟨mb,4,none⟩=some (.slice v.a4 md.stones.length v.c4)/\W'.cell? ⟨mb,5,none⟩=some (.slice v.a5 md.apart.length v.c5)/\W'.cell? ⟨pb,0,none⟩=some (.int .i64 b0)/\W'.cell? ⟨pb,1,none⟩=some (.int .i64 b1)/\W'.cell? ⟨pb,2,none⟩=some (.int .i64 b2))
  (first | exact HSW.out _ (Below.refl _ _) | exact HSW.out _ hq0 | exact HSW.out _ hq1 | exact HSW.out _ hq2)
  (first
   | (go_at_call 35;refine (HSt.out _ hq0).mono ?_;rintro e W1 ⟨rfl,hb⟩;have hq1:=hq0.trans (hb.mono hq0.size);clear hb HSt)
   | (go_at_call 34;refine (HTu.out _ hq1).mono ?_;rintro e W2 ⟨rfl,hb⟩;have hq2:=hq1.trans (hb.mono hq1.size);clear hb))
 have HQ:=hid hq2
 clear hq0 hq1 hq2
 go_wp2_with fail
 go_ret
 exact ⟨rfl,HQ.out⟩
theorem leans2_walk (md:ModelD) (v:ModelV) (mb:Nat) (b:Pl) (pb:Nat) (s:ByteArray) (W:World) (hz:md.Sml) (hX:BoxM md v mb b pb W) (hM:ModelM false (From 0) W md v) :
  Calls Tryz.prog 41 #[.string s,.pointer (some ⟨pb,0,none⟩),.pointer (some ⟨mb,0,none⟩)] W (fun e w'=>e=.returned (.bool (decide (b.2.1=stoneIx md s)))/\Below W.heap.size W w'):=by
 obtain ⟨i,hix⟩:∃i,stoneIx md s=i:=⟨_,rfl⟩
 have HSt:=hid (fun W' (h:Below W.heap.size W W')=>modelStone md v s W' hz.stones (hM.grow h))
 simp only [hix] at HSt
 rw [hix]
 obtain ⟨b0,b1,b2⟩:=b
 have HQQ:Hid ((b1==i)=decide (b1=i)):=by show _=_;rw [Bool.eq_iff_iff];simp
 have HSW:Hid (∀W',Below W.heap.size W W'->(Below W.heap.size W W'/\W'.cell? ⟨mb,0,none⟩=some (.string md.name)/\W'.cell? ⟨mb,1,none⟩=some (.slice v.a1 md.attrs.length v.c1)/\W'.cell? ⟨mb,2,none⟩=some (.slice v.a2 md.events.length v.c2)/\W'.cell? ⟨mb,3,none⟩=some (.slice v.a3 md.stages.length v.c3) /\
   W'.cell? ⟨mb,4,none⟩=some (.slice v.a4 md.stones.length v.c4)/\W'.cell? ⟨mb,5,none⟩=some (.slice v.a5 md.apart.length v.c5)/\W'.cell? ⟨pb,1,none⟩=some (.int .i64 b1))):=fun W' hb =>
  have h:=hX.below hb
  ⟨hb,h.m0,h.m1,h.m2,h.m3,h.m4,h.m5,h.p1⟩
 have hq0:=(Below.refl W.heap.size W).drew
 clear hX hM hz hix
 go_enter Tryz.func41,Tryz.ntmps41
 go_upto_region 1 with fail
 go_region_held3 (fun W'=>Below W.heap.size W W'/\W'.cell? ⟨mb,0,none⟩=some (.string md.name)/\W'.cell? ⟨mb,1,none⟩=some (.slice v.a1 md.attrs.length v.c1)/\W'.cell? ⟨mb,2,none⟩=some (.slice v.a2 md.events.length v.c2)/\W'.cell? ⟨mb,3,none⟩=some (.slice v.a3 md.stages.length v.c3) /\
   W'.cell? ⟨mb,4,none⟩=some (.slice v.a4 md.stones.length v.c4)/\W'.cell? ⟨mb,5,none⟩=some (.slice v.a5 md.apart.length v.c5)/\W'.cell? ⟨pb,1,none⟩=some (.int .i64 b1))
  (first | exact HSW.out _ (Below.refl _ _) | exact HSW.out _ hq0 | exact HSW.out _ hq1)
  (first
   | (go_at_call 36;refine (HSt.out _ hq0).mono ?_;rintro e W1 ⟨rfl,hb⟩;have hq1:=hq0.trans (hb.mono hq0.size);clear hb))
 have HQ:=hid hq1
 clear hq0 hq1
 go_wp2_with fail
 go_ret
 exact ⟨ret_bool HQQ.out,HQ.out⟩
noncomputable def onB (md:ModelD) (b:Pl) (s:SentryD):Bool :=
 (decide (s.on=2\/s.on=3)&&turnsB md b (stageIx md s.name) (decide (s.on=2)) (decide (s.on=3)))||(decide (s.on=4\/s.on=5)&&(decide (b.1=s.on-1)&&decide (b.2.1=stoneIx md s.name)))
def inB (md:ModelD) (a b:Pl):Bool:=decide (a.1=1)&&match md.stages[a.2.1.toNat]? with
 | none=>false
 | some x=>decide (0<=x.inn)&&turnsB md b x.inn true true
theorem leansS_eq (md:ModelD) (a b:Pl) (s:SentryD):leansS md a b s=(onB md b s||inB md a b||condB md b s.cond):=rfl
theorem any_same {l l':List ByteArray} (h:∀s,s∈l↔s∈l') (p:ByteArray->Bool):l.any p=l'.any p:=by
 rw [Bool.eq_iff_iff,List.any_eq_true,List.any_eq_true]
 exact ⟨fun ⟨x,hx,hp⟩=>⟨x,(h x).1 hx,hp⟩,fun ⟨x,hx,hp⟩=>⟨x,(h x).2 hx,hp⟩⟩
theorem condB_zero {md:ModelD} {b:Pl} {c:ByteArray} (h:c.size=0):condB md b c=false:=if_pos h
theorem condB_some {md:ModelD} {b:Pl} {c:ByteArray} {t:GT} (h0:c.size≠0) (h:readOf c=some t):condB md b c=((namesOf 6 t).any (fun n=>turnsB md b (stageIx md n) true true)||(decide (2<b.1)&&(namesOf 7 t).any (fun n=>decide (b.2.1=stoneIx md n)))):=by
 unfold condB;rw [if_neg h0,h]
theorem leans_walk (md:ModelD) (v:ModelV) (a b:Pl) (s:SentryD) (w:World) (hz:md.Sml) (hi:InOk md) (ha:a.1=1->0<=a.2.1/\a.2.1<md.stages.length) (hc:s.cond.size≠0->∃t,readOf s.cond=some t) (hM:ModelM false (From 0) w md v) (hv:GRng w) :
  Calls Tryz.prog 18 #[.agg (v.cs md).toArray,plV a,plV b,senV s] w (fun e w'=>e=.returned (.bool (leansS md a b s))/\Below w.heap.size w w'):=by
 rw [leansS_eq]
 obtain ⟨va1,vc1,va2,vc2,va3,vc3,va4,vc4,va5,vc5⟩:=v
 obtain ⟨on,name,cond⟩:=s
 obtain ⟨a0,a1,a2⟩:=a
 obtain ⟨b0,b1,b2⟩:=b
 simp only [plV,senV]
 obtain ⟨wa,hwa⟩:∃wa,w.alloc (.cells (ModelV.cs ⟨va1,vc1,va2,vc2,va3,vc3,va4,vc4,va5,vc5⟩ md).toArray 31)=wa:=⟨_,rfl⟩
 obtain ⟨w1,hw1⟩:∃w1,((wa.alloc (.cells #[.int .i64 a0,.int .i64 a1,.int .i64 a2] 33)).alloc (.cells #[.int .i64 b0,.int .i64 b1,.int .i64 b2] 33)).alloc (.cells #[.int .u8 on,.string name,.string cond] 35)=w1:=⟨_,rfl⟩
 have hza:wa.heap.size=w.heap.size+1:=by rw [<-hwa,size_alloc]
 have hba:Below w.heap.size w wa:=hwa▸(Below.refl _ _).alloc (Nat.le_refl _) _
 have hb1:Below w.heap.size w w1:=hw1▸((hba.alloc (by omega) _).alloc (by rw [size_alloc];omega) _).alloc (by rw [size_alloc,size_alloc];omega) _
 have hxm:Arr w1 w.heap.size 31 (ModelV.cs ⟨va1,vc1,va2,vc2,va3,vc3,va4,vc4,va5,vc5⟩ md):=hw1▸(((show Arr wa _ _ _ from hwa▸Arr.new w (ModelV.cs ⟨va1,vc1,va2,vc2,va3,vc3,va4,vc4,va5,vc5⟩ md) _).alloc _).alloc _).alloc _
 have hxa:Arr w1 (w.heap.size+1) 33 [.int .i64 a0,.int .i64 a1,.int .i64 a2]:=hw1▸((show Arr _ (w.heap.size+1) _ _ from ⟨alloc_at (by rw [hza])⟩).alloc _).alloc _
 have hxb:Arr w1 (w.heap.size+1+1) 33 [.int .i64 b0,.int .i64 b1,.int .i64 b2]:=hw1▸(show Arr _ (w.heap.size+1+1) _ _ from ⟨alloc_at (by rw [size_alloc,hza])⟩).alloc _
 have hxs:Arr w1 (w.heap.size+1+1+1) 35 [.int .u8 on,.string name,.string cond]:=hw1▸⟨alloc_at (by rw [size_alloc,size_alloc,hza])⟩
 have HM:=hid (fun W (hb:Below w1.heap.size w1 W)=>hM.grow (hb1.trans (hb.mono hb1.size)))
 have HV:=hid (fun W (hb:Below w1.heap.size w1 W)=>hv.below (hb1.trans (hb.mono hb1.size)))
 have HB1:=hid hb1
 have HZ:=hid hz
 have HI:=hid hi
 have HA:=hid ha
 have HCD:=hid hc
 have HSW:Hid (∀W',Below w1.heap.size w1 W'->(Below w1.heap.size w1 W'/\W'.cell? ⟨w.heap.size,0,none⟩=some (.string md.name)/\W'.cell? ⟨w.heap.size,1,none⟩=some (.slice va1 md.attrs.length vc1)/\W'.cell? ⟨w.heap.size,2,none⟩=some (.slice va2 md.events.length vc2)/\W'.cell? ⟨w.heap.size,3,none⟩=some (.slice va3 md.stages.length vc3) /\
   W'.cell? ⟨w.heap.size,4,none⟩=some (.slice va4 md.stones.length vc4)/\W'.cell? ⟨w.heap.size,5,none⟩=some (.slice va5 md.apart.length vc5)/\W'.cell? ⟨w.heap.size+1,0,none⟩=some (.int .i64 a0)/\W'.cell? ⟨w.heap.size+1,1,none⟩=some (.int .i64 a1) /\
   W'.cell? ⟨w.heap.size+1+1,0,none⟩=some (.int .i64 b0)/\W'.cell? ⟨w.heap.size+1+1,1,none⟩=some (.int .i64 b1)/\W'.cell? ⟨w.heap.size+1+1,2,none⟩=some (.int .i64 b2)/\W'.cell? ⟨w.heap.size+1+1+1,0,none⟩=some (.int .u8 on)/\W'.cell? ⟨w.heap.size+1+1+1,1,none⟩=some (.string name)/\W'.cell? ⟨w.heap.size+1+1+1,2,none⟩=some (.string cond))):=fun W' hb=>by
  obtain ⟨m0,m1,m2,m3,m4,m5⟩:=box6 hxm hb
  exact ⟨hb,m0,m1,m2,m3,m4,m5,cellBelow2 hb (hxa.cell (j:=0) (by simp)),cellBelow2 hb (hxa.cell (j:=1) (by simp)),cellBelow2 hb (hxb.cell (j:=0) (by simp)),cellBelow2 hb (hxb.cell (j:=1) (by simp)),cellBelow2 hb (hxb.cell (j:=2) (by simp)),cellBelow2 hb (hxs.cell (j:=0) (by simp)),cellBelow2 hb (hxs.cell (j:=1) (by simp)),cellBelow2 hb (hxs.cell (j:=2) (by simp))⟩
 have HWA:=hid hwa
 have HW1:=hid hw1
 obtain ⟨i1,hi1⟩:∃i,stageIx md name=i:=⟨_,rfl⟩
 obtain ⟨i2,hi2⟩:∃i,stoneIx md name=i:=⟨_,rfl⟩
 have hile:=stageIx_le md name
 rw [hi1] at hile
 have HSt:=hid (fun W' (h:Below w1.heap.size w1 W')=>modelStage md ⟨va1,vc1,va2,vc2,va3,vc3,va4,vc4,va5,vc5⟩ name W' hz.stages (HM.out W' h))
 have HSo:=hid (fun W' (h:Below w1.heap.size w1 W')=>modelStone md ⟨va1,vc1,va2,vc2,va3,vc3,va4,vc4,va5,vc5⟩ name W' hz.stones (HM.out W' h))
 simp only [hi1] at HSt
 simp only [hi2] at HSo
 have HTu:=hid (fun i o c W' (hl:-1<=i/\i<(md.stages.length:Int)) (h:Below w1.heap.size w1 W')=>turns_walk md ⟨va1,vc1,va2,vc2,va3,vc3,va4,vc4,va5,vc5⟩ (b0,b1,b2) i o c W' hi hl (HM.out W' h))
 simp only [plV] at HTu
 obtain ⟨Q1,hQ1⟩:∃q,onB md (b0,b1,b2) ⟨on,name,cond⟩=q:=⟨_,rfl⟩
 obtain ⟨Q2,hQ2⟩:∃q,inB md (a0,a1,a2) (b0,b1,b2)=q:=⟨_,rfl⟩
 obtain ⟨Q3,hQ3⟩:∃q,condB md (b0,b1,b2) cond=q:=⟨_,rfl⟩
 rw [hQ1,hQ2,hQ3]
 simp only [onB,hi1,hi2] at hQ1
 have HQ1:=hid hQ1
 have HQ2:=hid hQ2
 have HQ3:=hid hQ3
 have HIL:=hid hile
 obtain ⟨hbx,m0,m1,m2,m3,m4,m5,p0,p1,r0,r1,r2,s0,s1,s2⟩:=HSW.out w1 (Below.refl _ _)
 clear hM hv hz hi ha hc hba hb1 hxm hxa hxb hxs hwa hw1 hi1 hi2 hile hQ1 hQ2 hQ3 hbx hza
 go_enter Tryz.func18,Tryz.ntmps18
 go_upto_region 1 with fail
 rw [HWA.out,HW1.out]
 go_upto_block 0 with fail
 go_cut [] (fun wx=>Hid (Below w1.heap.size w1 wx)/\Hid (Q1=false))
 case first =>
  have hq0:=(Below.refl w1.heap.size w1).drew
  have:on=2\/on=3\/on=4\/on=5\/(on≠2/\on≠3/\on≠4/\on≠5):=by omega
  rcases this with rfl | rfl | rfl | rfl | ⟨n2,n3,n4,n5⟩
  ·obtain ⟨r,hr⟩:∃r,turnsB md (b0,b1,b2) i1 true false=r:=⟨_,rfl⟩
   have HT:=hid (fun W' (h:Below w1.heap.size w1 W')=>HTu.out i1 true false W' HIL.out h)
   simp only [hr] at HT
   have HR:Hid (r=Q1):=by show _=_;rw [<-HQ1.out,<-hr];simp
   clear hr HTu
   go_upto_region 4 with fail
   go_region_held3 (fun W'=>Below w1.heap.size w1 W'/\W'.cell? ⟨w.heap.size,0,none⟩=some (.string md.name)/\W'.cell? ⟨w.heap.size,1,none⟩=some (.slice va1 md.attrs.length vc1)/\W'.cell? ⟨w.heap.size,2,none⟩=some (.slice va2 md.events.length vc2)/\W'.cell? ⟨w.heap.size,3,none⟩=some (.slice va3 md.stages.length vc3) /\
   W'.cell? ⟨w.heap.size,4,none⟩=some (.slice va4 md.stones.length vc4)/\W'.cell? ⟨w.heap.size,5,none⟩=some (.slice va5 md.apart.length vc5)/\W'.cell? ⟨w.heap.size+1,0,none⟩=some (.int .i64 a0)/\W'.cell? ⟨w.heap.size+1,1,none⟩=some (.int .i64 a1) /\
   W'.cell? ⟨w.heap.size+1+1,0,none⟩=some (.int .i64 b0)/\W'.cell? ⟨w.heap.size+1+1,1,none⟩=some (.int .i64 b1)/\W'.cell? ⟨w.heap.size+1+1,2,none⟩=some (.int .i64 b2)/\W'.cell? ⟨w.heap.size+1+1+1,0,none⟩=some (.int .u8 2)/\W'.cell? ⟨w.heap.size+1+1+1,1,none⟩=some (.string name)/\W'.cell? ⟨w.heap.size+1+1+1,2,none⟩=some (.string cond))
    (first | exact HSW.out _ (Below.refl _ _) | exact HSW.out _ hq0 | exact HSW.out _ hq1 | exact HSW.out _ hq2)
    (first
     | (go_at_call 35;refine (HSt.out _ hq0).mono ?_;rintro e W1 ⟨rfl,hb⟩;have hq1:=hq0.trans (hb.mono hq0.size);clear hb HSt)
     | (go_at_call 34;refine (HT.out _ hq1).mono ?_;rintro e W2 ⟨rfl,hb⟩;have hq2:=hq1.trans (hb.mono hq1.size);clear hb))
   have HQ:=hid hq2
   clear hq0 hq1 hq2 HT m0 m1 m2 m3 m4 m5 p0 p1 r0 r1 r2 s0 s1 s2
   cases r with
   | true =>
    go_wp2_with fail
    go_ret
    exact ⟨ret_bool (by rw [<-HR.out];simp),HB1.out.trans (HQ.out.mono HB1.out.size)⟩
   | false =>
    go_wp2_with fail
    go_meet
    exact ⟨HQ.out,HR.out.symm⟩
  ·obtain ⟨r,hr⟩:∃r,turnsB md (b0,b1,b2) i1 false true=r:=⟨_,rfl⟩
   have HT:=hid (fun W' (h:Below w1.heap.size w1 W')=>HTu.out i1 false true W' HIL.out h)
   simp only [hr] at HT
   have HR:Hid (r=Q1):=by show _=_;rw [<-HQ1.out,<-hr];simp
   clear hr HTu
   go_upto_region 4 with fail
   go_region_held3 (fun W'=>Below w1.heap.size w1 W'/\W'.cell? ⟨w.heap.size,0,none⟩=some (.string md.name)/\W'.cell? ⟨w.heap.size,1,none⟩=some (.slice va1 md.attrs.length vc1)/\W'.cell? ⟨w.heap.size,2,none⟩=some (.slice va2 md.events.length vc2)/\W'.cell? ⟨w.heap.size,3,none⟩=some (.slice va3 md.stages.length vc3) /\
   W'.cell? ⟨w.heap.size,4,none⟩=some (.slice va4 md.stones.length vc4)/\W'.cell? ⟨w.heap.size,5,none⟩=some (.slice va5 md.apart.length vc5)/\W'.cell? ⟨w.heap.size+1,0,none⟩=some (.int .i64 a0)/\W'.cell? ⟨w.heap.size+1,1,none⟩=some (.int .i64 a1) /\
   W'.cell? ⟨w.heap.size+1+1,0,none⟩=some (.int .i64 b0)/\W'.cell? ⟨w.heap.size+1+1,1,none⟩=some (.int .i64 b1)/\W'.cell? ⟨w.heap.size+1+1,2,none⟩=some (.int .i64 b2)/\W'.cell? ⟨w.heap.size+1+1+1,0,none⟩=some (.int .u8 3)/\W'.cell? ⟨w.heap.size+1+1+1,1,none⟩=some (.string name)/\W'.cell? ⟨w.heap.size+1+1+1,2,none⟩=some (.string cond))
    (first | exact HSW.out _ (Below.refl _ _) | exact HSW.out _ hq0 | exact HSW.out _ hq1 | exact HSW.out _ hq2)
    (first
     | (go_at_call 35;refine (HSt.out _ hq0).mono ?_;rintro e W1 ⟨rfl,hb⟩;have hq1:=hq0.trans (hb.mono hq0.size);clear hb HSt)
     | (go_at_call 34;refine (HT.out _ hq1).mono ?_;rintro e W2 ⟨rfl,hb⟩;have hq2:=hq1.trans (hb.mono hq1.size);clear hb))
   have HQ:=hid hq2
   clear hq0 hq1 hq2 HT m0 m1 m2 m3 m4 m5 p0 p1 r0 r1 r2 s0 s1 s2
   cases r with
   | true =>
    go_wp2_with fail
    go_ret
    exact ⟨ret_bool (by rw [<-HR.out];simp),HB1.out.trans (HQ.out.mono HB1.out.size)⟩
   | false =>
    go_wp2_with fail
    go_meet
    exact ⟨HQ.out,HR.out.symm⟩
  ·by_cases hb0:b0=3
   ·subst hb0
    have HR:Hid (decide (b1=i2)=Q1):=by show _=_;rw [<-HQ1.out];simp
    have HEB:Hid ((b1==i2)=decide (b1=i2)):=by show _=_;rw [Bool.eq_iff_iff];simp
    clear HTu HSt
    go_upto_region 8 with fail
    go_region_held3 (fun W'=>Below w1.heap.size w1 W'/\W'.cell? ⟨w.heap.size,0,none⟩=some (.string md.name)/\W'.cell? ⟨w.heap.size,1,none⟩=some (.slice va1 md.attrs.length vc1)/\W'.cell? ⟨w.heap.size,2,none⟩=some (.slice va2 md.events.length vc2)/\W'.cell? ⟨w.heap.size,3,none⟩=some (.slice va3 md.stages.length vc3)/\W'.cell? ⟨w.heap.size,4,none⟩=some (.slice va4 md.stones.length vc4)/\W'.cell? ⟨w.heap.size,5,none⟩=some (.slice va5 md.apart.length vc5)/\W'.cell? ⟨w.heap.size+1,0,none⟩=some (.int .i64 a0)/\W'.cell? ⟨w.heap.size+1,1,none⟩=some (.int .i64 a1)/\W'.cell? ⟨w.heap.size+1+1,0,none⟩=some (.int .i64 3)/\W'.cell? ⟨w.heap.size+1+1,1,none⟩=some (.int .i64 b1)/\W'.cell? ⟨w.heap.size+1+1,2,none⟩=some (.int .i64 b2)/\W'.cell? ⟨w.heap.size+1+1+1,0,none⟩=some (.int .u8 4)/\W'.cell? ⟨w.heap.size+1+1+1,1,none⟩=some (.string name)/\W'.cell? ⟨w.heap.size+1+1+1,2,none⟩=some (.string cond))
     (first | exact HSW.out _ (Below.refl _ _) | exact HSW.out _ hq0 | exact HSW.out _ hq1)
     (first
      | (go_at_call 36;refine (HSo.out _ hq0).mono ?_;rintro e W1 ⟨rfl,hb⟩;have hq1:=hq0.trans (hb.mono hq0.size);clear hb HSo))
    have HQ:=hid hq1
    clear hq0 hq1 m0 m1 m2 m3 m4 m5 p0 p1 r0 r1 r2 s0 s1 s2
    by_cases hb1:b1=i2
    ·have e1:(b1==i2)=true:=by simpa using hb1
     have HR2:Hid (true=Q1):=by show _=_;rw [<-HR.out];simp [hb1]
     clear hb1
     go_wp2_with fail
     go_ret
     exact ⟨ret_bool (by rw [<-HR2.out];simp),HB1.out.trans (HQ.out.mono HB1.out.size)⟩
    have e1:(b1==i2)=false:=by simpa using hb1
    have HR2:Hid (false=Q1):=by show _=_;rw [<-HR.out];simp [hb1]
    clear hb1
    go_wp2_with fail
    go_meet
    exact ⟨HQ.out,HR2.out.symm⟩
   have HR2:Hid (false=Q1):=by show _=_;rw [<-HQ1.out];simp [hb0]
   have e1:(b0==3)=false:=by simpa using hb0
   clear HTu HSt HSo hb0
   go_upto_region 8 with fail
   go_quiet (fail)
   go_wp2_with fail
   go_meet
   exact ⟨below_drewN (Below.refl _ _) _,HR2.out.symm⟩
  ·by_cases hb0:b0=4
   ·subst hb0
    have HR:Hid (decide (b1=i2)=Q1):=by show _=_;rw [<-HQ1.out];simp
    have HEB:Hid ((b1==i2)=decide (b1=i2)):=by show _=_;rw [Bool.eq_iff_iff];simp
    clear HTu HSt
    go_upto_region 8 with fail
    go_region_held3 (fun W'=>Below w1.heap.size w1 W'/\W'.cell? ⟨w.heap.size,0,none⟩=some (.string md.name)/\W'.cell? ⟨w.heap.size,1,none⟩=some (.slice va1 md.attrs.length vc1)/\W'.cell? ⟨w.heap.size,2,none⟩=some (.slice va2 md.events.length vc2)/\W'.cell? ⟨w.heap.size,3,none⟩=some (.slice va3 md.stages.length vc3)/\W'.cell? ⟨w.heap.size,4,none⟩=some (.slice va4 md.stones.length vc4)/\W'.cell? ⟨w.heap.size,5,none⟩=some (.slice va5 md.apart.length vc5)/\W'.cell? ⟨w.heap.size+1,0,none⟩=some (.int .i64 a0)/\W'.cell? ⟨w.heap.size+1,1,none⟩=some (.int .i64 a1)/\W'.cell? ⟨w.heap.size+1+1,0,none⟩=some (.int .i64 4)/\W'.cell? ⟨w.heap.size+1+1,1,none⟩=some (.int .i64 b1)/\W'.cell? ⟨w.heap.size+1+1,2,none⟩=some (.int .i64 b2)/\W'.cell? ⟨w.heap.size+1+1+1,0,none⟩=some (.int .u8 5)/\W'.cell? ⟨w.heap.size+1+1+1,1,none⟩=some (.string name)/\W'.cell? ⟨w.heap.size+1+1+1,2,none⟩=some (.string cond))
     (first | exact HSW.out _ (Below.refl _ _) | exact HSW.out _ hq0 | exact HSW.out _ hq1)
     (first
      | (go_at_call 36;refine (HSo.out _ hq0).mono ?_;rintro e W1 ⟨rfl,hb⟩;have hq1:=hq0.trans (hb.mono hq0.size);clear hb HSo))
    have HQ:=hid hq1
    clear hq0 hq1 m0 m1 m2 m3 m4 m5 p0 p1 r0 r1 r2 s0 s1 s2
    by_cases hb1:b1=i2
    ·have e1:(b1==i2)=true:=by simpa using hb1
     have HR2:Hid (true=Q1):=by show _=_;rw [<-HR.out];simp [hb1]
     clear hb1
     go_wp2_with fail
     go_ret
     exact ⟨ret_bool (by rw [<-HR2.out];simp),HB1.out.trans (HQ.out.mono HB1.out.size)⟩
    have e1:(b1==i2)=false:=by simpa using hb1
    have HR2:Hid (false=Q1):=by show _=_;rw [<-HR.out];simp [hb1]
    clear hb1
    go_wp2_with fail
    go_meet
    exact ⟨HQ.out,HR2.out.symm⟩
   have HR2:Hid (false=Q1):=by show _=_;rw [<-HQ1.out];simp [hb0]
   have e1:(b0==4)=false:=by simpa using hb0
   clear HTu HSt HSo hb0
   go_upto_region 8 with fail
   go_quiet (fail)
   go_wp2_with fail
   go_meet
   exact ⟨below_drewN (Below.refl _ _) _,HR2.out.symm⟩
  have HR2:Hid (false=Q1):=by show _=_;rw [<-HQ1.out];simp [n2,n3,n4,n5]
  have e2:(on==2)=false:=by simpa using n2
  have e3:(on==3)=false:=by simpa using n3
  have e4:(on==4)=false:=by simpa using n4
  have e5:(on==5)=false:=by simpa using n5
  clear HTu HSt HSo n2 n3 n4 n5
  go_wp2_with fail
  go_meet
  exact ⟨Below.refl _ _,HR2.out.symm⟩
 obtain ⟨HB,HQ1F⟩:=hcut
 clear m0 m1 m2 m3 m4 m5 p0 p1 r0 r1 r2 s0 s1 s2 HSt HSo HQ1
 obtain ⟨hbx,m0,m1,m2,m3,m4,m5,p0,p1,r0,r1,r2,s0,s1,s2⟩:=HSW.out wc HB.out
 clear hbx
 go_upto_region 11 with fail
 go_cut [78] (fun t wx=>t=.bool Q2/\Hid (Below w1.heap.size w1 wx))
 case first =>
  have hq0:=HB.out.drew
  by_cases h1:a0=1
  ·subst h1
   obtain ⟨h2,h3⟩:=HA.out rfl
   simp only at h2 h3
   obtain ⟨m,rfl⟩:∃m:Nat,a1=m:=⟨a1.toNat,by omega⟩
   have hml:m<md.stages.length:=by omega
   have i1:(m:Int)<(md.stages.length:Int):=by omega
   have i2:(0:Int)<=(m:Int):=by omega
   obtain ⟨b,off,ha,hbl,d1,e1,d2,e2,-,-,-,c1,-,-,-,-,-⟩:=stage_at (HM.out wc HB.out) hml
   have hin:=HI.out m hml
   have hQ2:=HQ2.out
   simp only [inB,Int.toNat_natCast,List.getElem?_eq_getElem hml] at hQ2
   obtain ⟨x,hx⟩:∃x,(md.stages[m]'hml).inn=x:=⟨_,rfl⟩
   rw [hx] at hin hQ2 c1
   have HST:Hid (∀W',Below wc.heap.size wc W'->W'.cell? ⟨b,off+m*7+1,none⟩=some (.int .i64 x)):=fun W' hb=>cellBelow2 hb c1
   obtain rfl:va3=some ⟨b,off,none⟩:=ha
   by_cases h0:0<=x
   ·obtain ⟨r,hr⟩:∃r,turnsB md (b0,b1,b2) x true true=r:=⟨_,rfl⟩
    have HT:=hid (fun W' (h:Below w1.heap.size w1 W')=>HTu.out x true true W' ⟨by omega,by omega⟩ h)
    simp only [hr] at HT
    have HR:Hid (r=Q2):=by show _=_;rw [<-hQ2,<-hr];simp [h0]
    have HSX:Hid (∀W',Below wc.heap.size wc W'->(W'.cell? ⟨b,off+m*7+1,none⟩=some (.int .i64 x)/\Below w1.heap.size w1 W'/\W'.cell? ⟨w.heap.size,0,none⟩=some (.string md.name)/\W'.cell? ⟨w.heap.size,1,none⟩=some (.slice va1 md.attrs.length vc1)/\W'.cell? ⟨w.heap.size,2,none⟩=some (.slice va2 md.events.length vc2)/\W'.cell? ⟨w.heap.size,3,none⟩=some (.slice (some ⟨b,off,none⟩) md.stages.length vc3)/\W'.cell? ⟨w.heap.size,4,none⟩=some (.slice va4 md.stones.length vc4)/\W'.cell? ⟨w.heap.size,5,none⟩=some (.slice va5 md.apart.length vc5)/\W'.cell? ⟨w.heap.size+1,0,none⟩=some (.int .i64 1)/\W'.cell? ⟨w.heap.size+1,1,none⟩=some (.int .i64 (m:Int))/\W'.cell? ⟨w.heap.size+1+1,0,none⟩=some (.int .i64 b0)/\W'.cell? ⟨w.heap.size+1+1,1,none⟩=some (.int .i64 b1)/\W'.cell? ⟨w.heap.size+1+1,2,none⟩=some (.int .i64 b2)/\W'.cell? ⟨w.heap.size+1+1+1,0,none⟩=some (.int .u8 on)/\W'.cell? ⟨w.heap.size+1+1+1,1,none⟩=some (.string name)/\W'.cell? ⟨w.heap.size+1+1+1,2,none⟩=some (.string cond))):=fun W' hb=>by
     have h:=HSW.out W' (HB.out.trans (hb.mono HB.out.size))
     exact ⟨HST.out W' hb,h⟩
    have hk0:=(Below.refl wc.heap.size wc).drew
    clear hr hx hin hQ2 HTu HQ2 h2 h3
    go_region_held3 (fun W'=>W'.cell? ⟨b,off+m*7+1,none⟩=some (.int .i64 x)/\Below w1.heap.size w1 W'/\W'.cell? ⟨w.heap.size,0,none⟩=some (.string md.name)/\W'.cell? ⟨w.heap.size,1,none⟩=some (.slice va1 md.attrs.length vc1)/\W'.cell? ⟨w.heap.size,2,none⟩=some (.slice va2 md.events.length vc2)/\W'.cell? ⟨w.heap.size,3,none⟩=some (.slice (some ⟨b,off,none⟩) md.stages.length vc3)/\W'.cell? ⟨w.heap.size,4,none⟩=some (.slice va4 md.stones.length vc4)/\W'.cell? ⟨w.heap.size,5,none⟩=some (.slice va5 md.apart.length vc5)/\W'.cell? ⟨w.heap.size+1,0,none⟩=some (.int .i64 1)/\W'.cell? ⟨w.heap.size+1,1,none⟩=some (.int .i64 (m:Int))/\W'.cell? ⟨w.heap.size+1+1,0,none⟩=some (.int .i64 b0)/\W'.cell? ⟨w.heap.size+1+1,1,none⟩=some (.int .i64 b1)/\W'.cell? ⟨w.heap.size+1+1,2,none⟩=some (.int .i64 b2)/\W'.cell? ⟨w.heap.size+1+1+1,0,none⟩=some (.int .u8 on)/\W'.cell? ⟨w.heap.size+1+1+1,1,none⟩=some (.string name)/\W'.cell? ⟨w.heap.size+1+1+1,2,none⟩=some (.string cond))
     (first | exact HSX.out _ (Below.refl _ _) | exact HSX.out _ hk0 | exact HSX.out _ hk1)
     (first
      | (go_at_call 34;refine (HT.out _ (HB.out.trans (hk0.mono HB.out.size))).mono ?_;rintro e W2 ⟨rfl,hb⟩;have hk1:=hk0.trans (hb.mono hk0.size);clear hb))
    have HQ:=hid hk1
    clear hq0 hk0 hk1
    go_wp2_with fail
    go_meet
    exact ⟨by rw [HR.out],HB.out.trans (HQ.out.mono HB.out.size)⟩
   have hF:false=Q2:=by rw [<-hQ2];simp [h0]
   have HF:=hid hF
   clear hx hin hQ2 HTu HQ2 h2 h3 hF
   go_quiet (fail)
   go_wp2_with fail
   go_meet
   exact ⟨by rw [HF.out],below_drewN HB.out _⟩
  have HF:Hid (false=Q2):=by show _=_;rw [<-HQ2.out];simp [inB,h1]
  have e1:(a0==1)=false:=by simpa using h1
  clear HTu HQ2 h1
  go_quiet (fail)
  go_wp2_with fail
  go_meet
  exact ⟨by rw [HF.out],below_drewN HB.out _⟩
 obtain ⟨rfl,HBX⟩:=hcut
 clear m0 m1 m2 m3 m4 m5 p0 p1 r0 r1 r2 s0 s1 s2
 rename World=>wd
 obtain ⟨hbx,m0,m1,m2,m3,m4,m5,p0,p1,r0,r1,r2,s0,s1,s2⟩:=HSW.out wd HBX.out
 clear hbx HTu HQ2
 cases Q2 with
 | true =>
  go_wp2_with fail
  go_ret
  exact ⟨ret_bool (by simp),HB1.out.trans (HBX.out.mono HB1.out.size)⟩
 | false =>
  rcases nz_list (s:=cond) with ⟨h1,h2⟩ | ⟨h1,h2⟩
  ·have HF:Hid (false=Q3):=by show _=_;rw [<-HQ3.out,condB_zero (size_zero.2 h1)]
   clear h1
   go_wp2_with fail
   go_ret
   exact ⟨ret_bool (by rw [HQ1F.out,<-HF.out];rfl),HB1.out.trans (HBX.out.mono HB1.out.size)⟩
  have h0:cond.size≠0:=fun h=>h1 (size_zero.1 h)
  obtain ⟨t,ht⟩:=HCD.out h0
  simp only at ht
  have hQ3:=HQ3.out
  rw [condB_some h0 ht] at hQ3
  have HQ3':=hid hQ3
  have HTT:=hid ht
  have HR:=hid (Read_walkA cond wd (HV.out wd HBX.out))
  clear h1 h0 ht hQ3 HQ3 HCD
  go_wp2_with fail
  refine HR.out.mono ?_
  intro e w3 hr
  obtain ⟨hb3,g,ga,gc,cs,rfl,hg,hA⟩:=hr.answer
  rcases hA.told with ⟨t',hro,rfl,rfl⟩ | ⟨hro,rfl,hc⟩
  ·rw [HTT.out] at hro
   injection hro with hro
   subst hro
   obtain ⟨n,xa,xl,xc,rfl⟩:=gin_kt hg
   have hb4:=(Below.refl w3.heap.size w3).alloc (Nat.le_refl _) (.cells #[.int .u8 t.kd,.int .i64 n,.string t.tx,.slice xa xl xc] 80)
   have hb34:=hb3.trans (hb4.mono hb3.size)
   have HB4:=hid (HBX.out.trans (hb34.mono HBX.out.size))
   obtain ⟨k1,k2,k3⟩:=readOf_may HTT.out
   have HN:=hid (Names_walk t _ _ k1 k2 k3 (hg.keepB hb4))
   obtain ⟨z0,z1,z2,z3⟩:=box4 (Arr.new w3 [.int .u8 t.kd,.int .i64 n,.string t.tx,.slice xa xl xc] 80) (Below.refl _ _)
   clear m0 m1 m2 m3 m4 m5 p0 p1 r0 r1 r2 s0 s1 s2 HR hr hA hg hb3 hb4 hb34 k1 k2 k3
   go_wp2_with fail
   refine HN.out.mono ?_
   rintro e w5 ⟨hb5,v0,v1,v2,l1,l2,rfl,hs1,hs2,hl1,hl2,hm1,hm2⟩
   have hb15:=HB4.out.trans (hb5.mono HB4.out.size)
   have HB5:=hid hb15
   have HBXM:Hid (∀W',Below w1.heap.size w1 W'->BoxM md ⟨va1,vc1,va2,vc2,va3,vc3,va4,vc4,va5,vc5⟩ w.heap.size (b0,b1,b2) (w.heap.size+1+1) W'):=fun W' hb=>by
    obtain ⟨hbx,m0,m1,m2,m3,m4,m5,p0,p1,r0,r1,r2,s0,s1,s2⟩:=HSW.out W' hb
    exact ⟨m0,m1,m2,m3,m4,m5,r0,r1,r2⟩
   have eg1:∀args w,(callFunc 40 args).run Tryz.prog w=.ok (.enter 40 args) w:=enters_of Tryz.func40 (by kernel_rfl) rfl
   have eg2:∀args w,(callFunc 41 args).run Tryz.prog w=.ok (.enter 41 args) w:=enters_of Tryz.func41 (by kernel_rfl) rfl
   have HC1:=hid (hasStrs v1 l1 (fun s=>turnsB md (b0,b1,b2) (stageIx md s) true true) 40 #[.pointer (some ⟨w.heap.size,0,none⟩),.pointer (some ⟨w.heap.size+1+1,0,none⟩)] eg1 w5 hl1 (fun s _ W hW=>by
    have hW1:=hb15.trans (hW.mono hb15.size)
    exact leans1_walk md _ _ _ _ s W HZ.out HI.out (HBXM.out W hW1) (HM.out W hW1)) hs1)
   have HC2:=hid (fun w6 (hb:Below w5.heap.size w5 w6)=>hasStrs v2 l2 (fun s=>decide (b1=stoneIx md s)) 41 #[.pointer (some ⟨w.heap.size+1+1,0,none⟩),.pointer (some ⟨w.heap.size,0,none⟩)] eg2 w6 hl2 (fun s _ W hW=>by
    have hb16:=hb15.trans (hb.mono hb15.size)
    have hW1:=hb16.trans (hW.mono hb16.size)
    exact leans2_walk md _ _ _ _ s W HZ.out (HBXM.out W hW1) (HM.out W hW1)) (strs_keep hs2 hb))
   rw [any_same hm1] at HC1
   simp only [any_same hm2] at HC2
   obtain ⟨x1,hx1⟩:∃x,(namesOf 6 t).any (fun n=>turnsB md (b0,b1,b2) (stageIx md n) true true)=x:=⟨_,rfl⟩
   obtain ⟨x2,hx2⟩:∃x,(namesOf 7 t).any (fun n=>decide (b1=stoneIx md n))=x:=⟨_,rfl⟩
   rw [hx1] at HC1
   simp only [hx2] at HC2
   have HQX:Hid ((x1||(decide (2<b0)&&x2))=Q3):=by show _=_;rw [<-HQ3'.out,hx1,hx2]
   obtain ⟨hbx,m0,m1,m2,m3,m4,m5,p0,p1,r0,r1,r2,s0,s1,s2⟩:=HSW.out w5 hb15
   clear hb5 hb15 hs1 hs2 hl1 hl2 hm1 hm2 eg1 eg2 hx1 hx2 z0 z1 z2 z3 HN hbx HQ3'
   cases x1 with
   | true =>
    have HF:Hid (true=Q3):=by show _=_;rw [<-HQX.out];rfl
    go_wp2_with fail
    refine HC1.out.mono ?_
    rintro e w6 ⟨rfl,hb6⟩
    have HB6:=hid (HB5.out.trans (hb6.mono HB5.out.size))
    clear hb6 HC1 HC2
    go_wp2_with fail
    go_ret
    exact ⟨ret_bool (by rw [HQ1F.out,<-HF.out];rfl),HB1.out.trans (HB6.out.mono HB1.out.size)⟩
   | false =>
    go_wp2_with fail
    refine HC1.out.mono ?_
    rintro e w6 ⟨rfl,hb6⟩
    have HC3:=hid (HC2.out w6 hb6)
    have hb16:=HB5.out.trans (hb6.mono HB5.out.size)
    have HB6:=hid hb16
    clear m0 m1 m2 m3 m4 m5 p0 p1 r0 r1 r2 s0 s1 s2
    obtain ⟨hbx,m0,m1,m2,m3,m4,m5,p0,p1,r0,r1,r2,s0,s1,s2⟩:=HSW.out w6 hb16
    clear hb6 hb16 HC1 HC2 hbx
    by_cases h2b:2<b0
    ·have HF:Hid (x2=Q3):=by show _=_;rw [<-HQX.out];simp [h2b]
     go_wp2_with fail
     refine HC3.out.mono ?_
     rintro e w7 ⟨rfl,hb7⟩
     have HB7:=hid (HB6.out.trans (hb7.mono HB6.out.size))
     clear hb7 HC3
     go_wp2_with fail
     go_ret
     exact ⟨ret_bool (by rw [HQ1F.out,<-HF.out];rfl),HB1.out.trans (HB7.out.mono HB1.out.size)⟩
    have HF:Hid (false=Q3):=by show _=_;rw [<-HQX.out];simp [h2b]
    go_wp2_with fail
    go_ret
    exact ⟨ret_bool (by rw [HQ1F.out,<-HF.out];rfl),HB1.out.trans (HB6.out.mono HB1.out.size)⟩
  rw [HTT.out] at hro;cases hro
end Go.Proofs.YtfbbkmdhnkmonaaGreatDoor
