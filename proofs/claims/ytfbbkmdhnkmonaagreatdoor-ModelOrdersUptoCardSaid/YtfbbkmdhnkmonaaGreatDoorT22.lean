/- Proved, each under the conditions that it names: docketref18: parts; docketref17: put: a text into texts; docketref17: named, Names of a guard that was read. -/
import Derived.Test.YtfbbkmdhnkmonaaGreatDoorT21
set_option maxRecDepth 100000
set_option maxHeartbeats 32000000
namespace Go.Proofs.YtfbbkmdhnkmonaaGreatDoor
open Go.RowKit
def OwnT (W:World) (B:Nat) (va:Option Addr) (vc L:Nat) (xs:List ByteArray):Prop:=L=xs.length/\Own W B 9 1 va vc L (xs.map Value.string)
theorem OwnT.nil (W:World) (B:Nat):OwnT W B none 0 0 []:=⟨rfl,by simpa using Own.nil W B _ 1⟩
theorem OwnT.below {W W':World} {B:Nat} {va:Option Addr} {vc L:Nat} {xs:List ByteArray} (h:OwnT W B va vc L xs) (hb:Below W.heap.size W W'):OwnT W' B va vc L xs:=⟨h.1,h.2.below hb (Nat.le_refl _)⟩
theorem OwnT.snoc {W:World} {B:Nat} {va:Option Addr} {vc L:Nat} {xs:List ByteArray} (s:ByteArray) (h:OwnT W B va vc L xs) (hb:B<=W.heap.size) (hl:L<=4000000) :
  ∃va' vc' w',(Builtin.append_ #[26,26] 26 #[.slice va L vc,.slice (some ⟨W.heap.size,0,none⟩) 1 1]).run Tryz.prog (W.alloc (.cells #[.string s] 9))=.ok (.slice va' (L+1) vc') w'/\OwnT w' B va' vc' (L+1) (xs++[s])/\Below B W w':=by
 obtain ⟨rfl,ho⟩:=h
 obtain ⟨va',vc',w',h1,h2,h3⟩:=own_snoc s ho hb hl
 have e:(xs++[s]).length=xs.length+1:=by simp
 rw [e] at h2
 exact ⟨va',vc',w',h1,⟨e.symm,h2⟩,h3⟩
theorem OwnT.cat {W:World} {B C:Nat} {va a:Option Addr} {vc L c:Nat} {xs ys:List ByteArray} (h:OwnT W B va vc L xs) (hb:B<=W.heap.size) (hl:L+ys.length<=4000000) (hs:Strs C W (.slice a ys.length c) ys) :
  ∃va' vc' w',(Builtin.append_ #[26,26] 26 #[.slice va L vc,.slice a ys.length c]).run Tryz.prog W=.ok (.slice va' (L+ys.length) vc') w'/\OwnT w' B va' vc' (L+ys.length) (xs++ys)/\Below B W w':=by
 obtain ⟨rfl,ho⟩:=h
 obtain ⟨a',c',b,o,he,-,ha,hc⟩:=hs.cells
 injection he with e1 e2 e3
 subst e1 e3
 obtain ⟨va',vc',w',hap,ho5,hg5⟩:=Own.app elemStr 26 ho hb a ys.length c b o (ys.map Value.string) (by simp) (fun h0=>(ha h0).1) (fun j x hj=>by
  have hjl:=lt_of_some hj
  rw [List.length_map] at hjl
  rw [List.getElem?_map,List.getElem?_eq_getElem hjl] at hj
  injection hj with hj
  rw [<-hj];exact hc j hjl) (fun x hx=>by
  obtain ⟨s,-,rfl⟩:=List.mem_map.1 hx
  rfl) (by unfold maxLen;omega) (by omega)
 rw [<-List.map_append] at ho5
 refine ⟨va',vc',w',hap,⟨by simp,ho5⟩,(Below.refl _ _).grown hg5 hb (fun j hj=>?_)⟩
 rcases ho.block with ⟨h1,_⟩ | ⟨g,h1,h2,_⟩
 ·rw [h1] at hj;cases hj
 rw [h1] at hj;cases hj;exact h2
theorem OwnT.strs {W:World} {B:Nat} {va:Option Addr} {vc L:Nat} {xs:List ByteArray} (h:OwnT W B va vc L xs):Strs W.heap.size W (.slice va L vc) xs:=by
 obtain ⟨rfl,ho⟩:=h
 exact own_strs ho
theorem take_map_succ {α:Type} (f:α->ByteArray) (pre:List ByteArray) {l:List α} {m:Nat} (h:m<l.length):(pre++(l.take m).map f)++[f l[m]]=pre++(l.take (m+1)).map f:=by
 rw [List.take_succ_eq_append_getElem h,List.map_append];simp
theorem not_built {md:ModelD} (h:¬Built md):builtB md=false:=by
 rw [Bool.eq_false_iff]
 exact fun hb=>h ((builtB_iff md).1 hb)
theorem pair_at {md:ModelD} {v:ModelV} {w:World} (h:ModelM false (From 0) w md v) {m:Nat} (hm:m<md.apart.length):∃b off,v.a5=some ⟨b,off,none⟩/\b<w.heap.size /\
  w.cell? ⟨b,off+m*2,none⟩=some (.string md.apart[m].1)/\w.cell? ⟨b,off+m*2+1,none⟩=some (.string md.apart[m].2):=by
 obtain ⟨_,_,b,off,hv,-,hC⟩:=flat_open h.apart
 injection hv with e1 e2 e3
 subst e1 e3
 obtain ⟨ha,-,hbl⟩:=hC.at0 (by omega)
 exact ⟨b,off,ha,hbl,hC.cell m hm 0 _ rfl,hC.cell m hm 1 _ rfl⟩
theorem badPair_eq (p:ByteArray×ByteArray):badPair p=(!namedG p.1||!namedG p.2||p.1.toList==p.2.toList):=by unfold badPair;rw [namedB_eq,namedB_eq]
theorem rfParts_walk (md:ModelD) (v:ModelV) (w:World) (hz:md.Sml) (hmany:manyN md<=128) (hM:ModelM false (From 0) w md v) :
  Calls Tryz.prog 28 #[.agg (v.cs md).toArray] w (fun e w'=>e=.returned (.bool (builtB md))/\Below w.heap.size w w'):=by
 obtain ⟨w1,hw1⟩:∃w1,w.alloc (.cells (v.cs md).toArray 31)=w1:=⟨_,rfl⟩
 have hb1:Below w.heap.size w w1:=hw1▸(Below.refl _ _).alloc (Nat.le_refl _) _
 have hx1:Arr w1 w.heap.size 31 (v.cs md):=hw1▸Arr.new w (v.cs md) _
 have HM:=hid (fun W (hb:Below w1.heap.size w1 W)=>hM.grow (hb1.trans (hb.mono hb1.size)))
 have HX:=hid hx1
 have HB1:=hid hb1
 have HW1:=hid hw1
 have HZ:=hid hz
 have HMY:=hid hmany
 have HNS:=hid (fun (l:List ByteArray) v W h1 h2=>rfNames_walk l v W h1 h2)
 obtain ⟨q,hq⟩:∃q,builtB md=q:=⟨_,rfl⟩
 rw [hq]
 have HNO:Hid (¬Built md->false=q):=fun h=>by rw [<-hq,not_built h]
 have HYES:Hid (Built md->true=q):=fun h=>by rw [<-hq,(builtB_iff md).2 h]
 obtain ⟨va1,vc1,va2,vc2,va3,vc3,va4,vc4,va5,vc5⟩:=v
 obtain ⟨y0,y1,y2,y3,y4,y5⟩:=box6 hx1 (Below.refl _ _)
 have hal:=hz.attrs
 have hel:=hz.events
 have hsl:=hz.stages
 have htl:=hz.stones
 have hpl:=hz.apart
 clear hM hb1 hx1 hw1 hz hq hmany
 go_enter Tryz.func28,Tryz.ntmps28
 go_upto_region 1 with fail
 rw [HW1.out]
 go_wp2_with fail
 go_loopw [3,4] (fun o i wr=>∃(m:Nat) (va:Option Addr) (vc L:Nat),m<=md.attrs.length/\i=.int .i64 (m:Int)/\o=.slice va L vc/\Hid (OwnT wr w1.heap.size va vc L ([]++(md.attrs.take m).map AttrD.name))/\Hid (Below w1.heap.size w1 wr)/\Hid (∀j (_:j<m) (h:j<md.attrs.length),badAttr md.attrs[j]=false)) (fun _ i _=>md.attrs.length-(intOf i).toNat)
 case atStart=>exact ⟨0,none,0,0,Nat.zero_le _,rfl,rfl,OwnT.nil _ _,Below.refl _ _,fun j hj=>absurd hj (Nat.not_lt_zero _)⟩
 obtain ⟨m,va,vc,L,hml,rfl,rfl,HO,HBM,HS⟩:=hrel
 clear y0 y1 y2 y3 y4 y5
 obtain ⟨y0,y1,y2,y3,y4,y5⟩:=box6 HX.out HBM.out
 by_cases hlt:m<md.attrs.length
 ·have i1:(m:Int)<(md.attrs.length:Int):=by omega
  have i2:(0:Int)<=(m:Int):=by omega
  have HML:=hid hlt
  obtain ⟨b,off,ha,hbl,c0,c1⟩:=attr_at (HM.out wr HBM.out) hlt
  obtain rfl:va1=some ⟨b,off,none⟩:=ha
  have hLm:L=m:=by rw [HO.out.1];simp;omega
  obtain ⟨va',vc',w5,hap,ho5,hb5⟩:=HO.out.snoc (md.attrs[m]'hlt).name HBM.out.size (by omega)
  rw [take_map_succ AttrD.name [] hlt] at ho5
  obtain ⟨sn,hsn⟩:∃sn,md.attrs[m]'hlt=sn:=⟨_,rfl⟩
  rw [hsn] at c0 c1 hap
  have hb5w:Below wr.heap.size wr w5\/True:=.inr trivial
  have HB5:=hid (HBM.out.trans hb5)
  obtain ⟨y0',y1',y2',y3',y4',y5'⟩:=box6 HX.out HB5.out
  obtain ⟨b2,off2,ha2,hbl2,c0',c1'⟩:=attr_at (HM.out w5 HB5.out) hlt
  injection ha2 with ha2
  injection ha2 with ha2 ha3
  subst ha2 ha3
  rw [hsn] at c0' c1'
  have HO5:=hid ho5
  have HAP:=hid hap
  have k3:IntKind.i64.wrap ((m:Int)+1)=(m:Int)+1:=wrap_i64 (by omega) (by omega)
  have HNB:Hid (badAttr sn=true->false=q):=fun h=>HNO.out fun hB=>by
   have h1:=List.any_eq_false.1 hB.kinds _ (List.getElem_mem HML.out)
   rw [hsn] at h1
   exact h1 h
  have HS2:Hid (badAttr sn=false->∀j (_:j<m+1) (h:j<md.attrs.length),badAttr md.attrs[j]=false):=fun hb j hj h=>by
   rcases Nat.lt_or_ge j m with h1 | h1
   ·exact HS.out j h1 h
   obtain rfl:j=m:=by omega
   rw [hsn];exact hb
  have HBF:=hid (HB1.out.trans (HB5.out.mono HB1.out.size))
  obtain ⟨nm,kd⟩:=sn
  simp only at c0 c1 c0' c1' hap
  clear hap ho5 hb5 hb5w hsn HO HS hLm
  by_cases h1:kd<1
  ·have HQ2:=hid (HNB.out (by simp [badAttr,h1]))
   go_wp2_with (at_builtin;refine wpList_append_run (by rfl) (.tmp 23) (.tmp 30) 26 (by rfl) (by rfl) (by rfl) HAP.out ?_)
   go_ret
   exact ⟨ret_bool HQ2.out,HBF.out⟩
  by_cases h3:3<kd
  ·have HQ2:=hid (HNB.out (by simp [badAttr,h3]))
   go_wp2_with (at_builtin;refine wpList_append_run (by rfl) (.tmp 23) (.tmp 30) 26 (by rfl) (by rfl) (by rfl) HAP.out ?_)
   go_ret
   exact ⟨ret_bool HQ2.out,HBF.out⟩
  have HS3:=hid (HS2.out (by simp [badAttr,h1,h3]))
  go_wp2_with (at_builtin;refine wpList_append_run (by rfl) (.tmp 23) (.tmp 30) 26 (by rfl) (by rfl) (by rfl) HAP.out ?_)
  refine ⟨⟨m+1,va',vc',L+1,by have:=HML.out;omega,by go_num,rfl,HO5,HB5,HS3⟩,by simp only [intOf];have:=HML.out;omega⟩
 obtain rfl:m=md.attrs.length:=by omega
 have i1:¬(md.attrs.length:Int)<(md.attrs.length:Int):=by omega
 have HT1:Hid (Strs wr.heap.size wr (.slice va L vc) (md.attrs.map AttrD.name)):=by
  have h:=HO.out.strs
  rw [List.nil_append,List.take_length] at h
  exact h
 have HBW1:=hid HBM.out
 have HKD:Hid (md.attrs.any badAttr=false):=any_miss fun j hj=>HS.out j hj hj
 clear HO HS hlt hml
 obtain ⟨W1,rfl⟩:∃W1,W1=wr:=⟨_,rfl⟩
 obtain ⟨ta,tac,tal,hta⟩:∃ta tac tal,Value.slice va L vc=.slice ta tal tac:=⟨_,_,_,rfl⟩
 obtain ⟨vb,vbc,W2,hapE,hoE,hbE⟩:=(OwnT.nil W1 W1.heap.size).cat (Nat.le_refl _) (by omega) (strD_strs (HM.out W1 HBW1.out).events)
 rw [Nat.zero_add] at hapE hoE
 have HAPE:=hid hapE
 have HOE:=hid hoE
 have HB12:=hid hbE
 have HBW2:=hid (HBW1.out.trans (hbE.mono HBW1.out.size))
 clear hapE hoE hbE
 go_upto_region 10 with (at_builtin;refine wpList_append_run (by rfl) (.tmp 48) (.tmp 50) 26 (by rfl) (by rfl) (by rfl) HAPE.out ?_)
 clear y0 y1 y2 y3 y4 y5
 go_wp2_with fail
 go_loopw [5,6] (fun o i wr=>∃(m:Nat) (va:Option Addr) (vc L:Nat),m<=md.stages.length/\i=.int .i64 (m:Int)/\o=.slice va L vc/\Hid (OwnT wr W1.heap.size va vc L (md.events++(md.stages.take m).map StageD.name))/\Hid (Below W1.heap.size W1 wr)) (fun _ i _=>md.stages.length-(intOf i).toNat)
 case atStart=>exact ⟨0,_,_,_,Nat.zero_le _,rfl,rfl,(by show OwnT _ _ _ _ _ _;simpa using HOE.out),HB12.out⟩
 obtain ⟨m,va',vc',L',hml,rfl,rfl,HO,HB⟩:=hrel
 have HBM:=hid (HBW1.out.trans (HB.out.mono HBW1.out.size))
 obtain ⟨y0,y1,y2,y3,y4,y5⟩:=box6 HX.out HBM.out
 by_cases hlt:m<md.stages.length
 ·have i1:(m:Int)<(md.stages.length:Int):=by omega
  have i2:(0:Int)<=(m:Int):=by omega
  have HML:=hid hlt
  obtain ⟨b,off,ha,hbl,d1,e1,d2,e2,-,-,c0,-,-,-,-,-,-⟩:=stage_at (HM.out wr HBM.out) hlt
  obtain rfl:va3=some ⟨b,off,none⟩:=ha
  have hLm:L'<=2097152:=by rw [HO.out.1];simp;omega
  obtain ⟨va2',vc2',w5,hap,ho5,hb5⟩:=HO.out.snoc (md.stages[m]'hlt).name HB.out.size (by omega)
  rw [take_map_succ StageD.name md.events hlt] at ho5
  have HO5:=hid ho5
  have HAP:=hid hap
  have HB5:=hid (HB.out.trans hb5)
  have k3:IntKind.i64.wrap ((m:Int)+1)=(m:Int)+1:=wrap_i64 (by omega) (by omega)
  clear hap ho5 hb5 HO hLm HB
  go_wp2_with (at_builtin;refine wpList_append_run (by rfl) (.tmp 59) (.tmp 66) 26 (by rfl) (by rfl) (by rfl) HAP.out ?_)
  refine ⟨⟨m+1,va2',vc2',L' + 1,by have:=HML.out;omega,by go_num,rfl,HO5,HB5⟩,by simp only [intOf];have:=HML.out;omega⟩
 obtain rfl:m=md.stages.length:=by omega
 have i1:¬(md.stages.length:Int)<(md.stages.length:Int):=by omega
 obtain ⟨W3,rfl⟩:∃W3,W3=wr:=⟨_,rfl⟩
 have HT2:Hid (Strs W3.heap.size W3 (.slice va' L' vc') (md.events++md.stages.map StageD.name)):=by
  have h:=HO.out.strs
  rw [List.take_length] at h
  exact h
 have HT13:Hid (Strs W3.heap.size W3 (.slice va L vc) (md.attrs.map AttrD.name)):=strs_keep HT1.out HB.out
 have HBW3:=hid HBM.out
 clear HO HB HBM HT1 hlt hml
 go_wp2_with fail
 go_loopw [7,8] (fun o i wr=>∃(m:Nat) (va:Option Addr) (vc L:Nat),m<=md.stones.length/\i=.int .i64 (m:Int)/\o=.slice va L vc/\Hid (OwnT wr W3.heap.size va vc L ([]++(md.stones.take m).map StoneD.name))/\Hid (Below W3.heap.size W3 wr)) (fun _ i _=>md.stones.length-(intOf i).toNat)
 case atStart=>exact ⟨0,none,0,0,Nat.zero_le _,rfl,rfl,OwnT.nil _ _,Below.refl _ _⟩
 obtain ⟨m,va2',vc2',L2',hml,rfl,rfl,HO,HB⟩:=hrel
 have HBM:=hid (HBW3.out.trans (HB.out.mono HBW3.out.size))
 clear y0 y1 y2 y3 y4 y5
 obtain ⟨y0,y1,y2,y3,y4,y5⟩:=box6 HX.out HBM.out
 by_cases hlt:m<md.stones.length
 ·have i1:(m:Int)<(md.stones.length:Int):=by omega
  have i2:(0:Int)<=(m:Int):=by omega
  have HML:=hid hlt
  obtain ⟨b,off,ha,hbl,d1,e1,d2,e2,-,-,c0,-,-⟩:=stone_at (HM.out wr HBM.out) hlt
  obtain rfl:va4=some ⟨b,off,none⟩:=ha
  have hLm:L2'<=2097152:=by rw [HO.out.1];simp;omega
  obtain ⟨va3',vc3',w5,hap,ho5,hb5⟩:=HO.out.snoc (md.stones[m]'hlt).name HB.out.size (by omega)
  rw [take_map_succ StoneD.name [] hlt] at ho5
  have HO5:=hid ho5
  have HAP:=hid hap
  have HB5:=hid (HB.out.trans hb5)
  have k3:IntKind.i64.wrap ((m:Int)+1)=(m:Int)+1:=wrap_i64 (by omega) (by omega)
  clear hap ho5 hb5 HO hLm HB
  go_wp2_with (at_builtin;refine wpList_append_run (by rfl) (.tmp 75) (.tmp 82) 26 (by rfl) (by rfl) (by rfl) HAP.out ?_)
  refine ⟨⟨m+1,va3',vc3',L2' + 1,by have:=HML.out;omega,by go_num,rfl,HO5,HB5⟩,by simp only [intOf];have:=HML.out;omega⟩
 obtain rfl:m=md.stones.length:=by omega
 have i1:¬(md.stones.length:Int)<(md.stones.length:Int):=by omega
 obtain ⟨W5,rfl⟩:∃W5,W5=wr:=⟨_,rfl⟩
 have HT35:Hid (Strs W5.heap.size W5 (.slice va2' L2' vc2') (md.stones.map StoneD.name)):=by
  have h:=HO.out.strs
  rw [List.nil_append,List.take_length] at h
  exact h
 have HT15:Hid (Strs W5.heap.size W5 (.slice va L vc) (md.attrs.map AttrD.name)):=strs_keep HT13.out HB.out
 have HT25:Hid (Strs W5.heap.size W5 (.slice va' L' vc') (md.events++md.stages.map StageD.name)):=strs_keep HT2.out HB.out
 have HBW5:=hid HBM.out
 clear HO HB HBM HT13 HT2 hlt hml
 have HN1:=hid (HNS.out _ _ W5 (by rw [List.length_map];omega) HT15.out)
 obtain ⟨r1,hr1⟩:∃r,rowB (md.attrs.map AttrD.name)=r:=⟨_,rfl⟩
 rw [hr1] at HN1
 have HR1:=hid hr1
 clear hr1
 cases r1 with
 | false =>
  have HQ2:=hid (HNO.out fun hB=>by have:=hB.attrs;rw [HR1.out] at this;cases this)
  go_wp2_with fail
  refine HN1.out.mono ?_
  rintro e w6 ⟨rfl,hb6⟩
  have HBF:=hid (HB1.out.trans ((HBW5.out.trans (hb6.mono HBW5.out.size)).mono HB1.out.size))
  clear hb6 HN1
  go_wp2_with fail
  go_ret
  exact ⟨ret_bool HQ2.out,HBF.out⟩
 | true =>
  go_wp2_with fail
  refine HN1.out.mono ?_
  rintro e w6 ⟨rfl,hb6⟩
  have HBW6:=hid (HBW5.out.trans (hb6.mono HBW5.out.size))
  have HT36:=hid (strs_keep HT35.out hb6)
  have HN2:=hid (HNS.out _ _ w6 (by rw [List.length_append,List.length_map];omega) (strs_keep HT25.out hb6))
  obtain ⟨r2,hr2⟩:∃r,rowB (md.events++md.stages.map StageD.name)=r:=⟨_,rfl⟩
  rw [hr2] at HN2
  have HR2:=hid hr2
  clear hr2 hb6 HN1 HT15 HT25 HT35 y0 y1 y2 y3 y4 y5
  cases r2 with
  | false =>
   have HQ2:=hid (HNO.out fun hB=>by have:=hB.both;rw [HR2.out] at this;cases this)
   go_wp2_with fail
   refine HN2.out.mono ?_
   rintro e w7 ⟨rfl,hb7⟩
   have HBF:=hid (HB1.out.trans ((HBW6.out.trans (hb7.mono HBW6.out.size)).mono HB1.out.size))
   clear hb7 HN2
   go_wp2_with fail
   go_ret
   exact ⟨ret_bool HQ2.out,HBF.out⟩
  | true =>
   go_wp2_with fail
   refine HN2.out.mono ?_
   rintro e w7 ⟨rfl,hb7⟩
   have HBW7:=hid (HBW6.out.trans (hb7.mono HBW6.out.size))
   have HN3:=hid (HNS.out _ _ w7 (by rw [List.length_map];omega) (strs_keep HT36.out hb7))
   obtain ⟨r3,hr3⟩:∃r,rowB (md.stones.map StoneD.name)=r:=⟨_,rfl⟩
   rw [hr3] at HN3
   have HR3:=hid hr3
   clear hr3 hb7 HN2 HT36
   cases r3 with
   | false =>
    have HQ2:=hid (HNO.out fun hB=>by have:=hB.stones;rw [HR3.out] at this;cases this)
    go_wp2_with fail
    refine HN3.out.mono ?_
    rintro e w8 ⟨rfl,hb8⟩
    have HBF:=hid (HB1.out.trans ((HBW7.out.trans (hb8.mono HBW7.out.size)).mono HB1.out.size))
    clear hb8 HN3
    go_wp2_with fail
    go_ret
    exact ⟨ret_bool HQ2.out,HBF.out⟩
   | true =>
    go_wp2_with fail
    refine HN3.out.mono ?_
    rintro e w8 ⟨rfl,hb8⟩
    have HBW8:=hid (HBW7.out.trans (hb8.mono HBW7.out.size))
    clear hb8 HN3 HBW5 HBW6 HBW7 HBW3 HBW2 HB12
    go_wp2_with fail
    go_loopw [9] (fun i wr=>∃m:Nat,m<=md.stages.length/\i=.int .i64 (m:Int)/\Hid (Below w1.heap.size w1 wr)/\Hid (∀j (_:j<m) (h:j<md.stages.length),stagedB md j md.stages[j]=true)) (fun i _=>md.stages.length-(intOf i).toNat)
    case atStart=>exact ⟨0,Nat.zero_le _,rfl,HBW8.out,fun j hj=>absurd hj (Nat.not_lt_zero _)⟩
    obtain ⟨m,hml,rfl,HBM,HS⟩:=hrel
    obtain ⟨y0,y1,y2,y3,y4,y5⟩:=box6 HX.out HBM.out
    by_cases hlt:m<md.stages.length
    ·have i1:(m:Int)<(md.stages.length:Int):=by omega
     have i2:(0:Int)<=(m:Int):=by omega
     have HML:=hid hlt
     have HC:=hid (rfStaged_walk md ⟨va1,vc1,va2,vc2,va3,vc3,va4,vc4,va5,vc5⟩ m hlt wr HZ.out (HM.out wr HBM.out))
     have k3:IntKind.i64.wrap ((m:Int)+1)=(m:Int)+1:=wrap_i64 (by omega) (by omega)
     obtain ⟨r,hr⟩:∃r,stagedB md m (md.stages[m]'hlt)=r:=⟨_,rfl⟩
     rw [hr] at HC
     have HRR:=hid hr
     clear hr
     go_wp2_with fail
     refine HC.out.mono ?_
     rintro e w9 ⟨rfl,hb9⟩
     have HB9:=hid (HBM.out.trans (hb9.mono HBM.out.size))
     clear hb9 HC HBM y0 y1 y2 y3 y4 y5
     cases r with
     | false =>
      have HQ2:=hid (HNO.out fun hB=>by have:=hB.staged m HML.out;rw [HRR.out] at this;cases this)
      have HBF:=hid (HB1.out.trans (HB9.out.mono HB1.out.size))
      go_wp2_with fail
      go_ret
      exact ⟨ret_bool HQ2.out,HBF.out⟩
     | true =>
      have HS2:Hid (∀j (_:j<m+1) (h:j<md.stages.length),stagedB md j md.stages[j]=true):=fun j hj h=>by
       rcases Nat.lt_or_ge j m with h1 | h1
       ·exact HS.out j h1 h
       obtain rfl:j=m:=by omega
       exact HRR.out
      clear HS
      go_wp2_with fail
      refine ⟨⟨m+1,by have:=HML.out;omega,by go_num,HB9,HS2⟩,by simp only [intOf];have:=HML.out;omega⟩
    obtain rfl:m=md.stages.length:=by omega
    have i1:¬(md.stages.length:Int)<(md.stages.length:Int):=by omega
    have HSG:Hid (∀n (h:n<md.stages.length),stagedB md n md.stages[n]=true):=fun n h=>HS.out n h h
    have HPL:=hid (rfPlaces_walk md ⟨va1,vc1,va2,vc2,va3,vc3,va4,vc4,va5,vc5⟩ wr HZ.out HMY.out (HM.out wr HBM.out))
    clear HS HBW8
    go_wp2_with fail
    refine HPL.out.mono ?_
    rintro e w9 ⟨hb9,pa,pc,rfl,hmp⟩
    have HB9:=hid (HBM.out.trans (hb9.mono HBM.out.size))
    obtain ⟨_,_,pb,po,hvv,-,hPC⟩:=flat_open hmp
    injection hvv with e1 e2 e3
    subst e1 e3
    have HPC:=hid (fun W (hb:Below w9.heap.size w9 W)=>hPC.grow hb)
    have HP0:Hid (0<(placesL md).length->pa=some ⟨pb,po,none⟩):=fun h=>(hPC.at0 h).1
    have HB99:=hid (Below.refl w9.heap.size w9)
    have hpm:(placesL md).length<=128:=by rw [length_placesL];exact HMY.out
    have HSE:Hid (∀j (hj:j<(placesL md).length),∃s,senAt md (placesL md)[j]=some s):=fun j hj=>by
     have:=(mem_placesL (md:=md) (p:=(placesL md)[j])).1 (List.getElem_mem hj)
     exact Option.isSome_iff_exists.1 this
    obtain ⟨PN,hPN⟩:∃PN,(placesL md).length=PN:=⟨_,rfl⟩
    have HPN:=hid hPN
    rw [hPN] at HP0 hpm ⊢
    clear hb9 HPL hmp e2 hPC y0 y1 y2 y3 y4 y5 HBM hPN
    go_wp2_with fail
    go_loopw [11] (fun i wr=>∃m:Nat,m<=PN/\i=.int .i64 (m:Int)/\Hid (Below w9.heap.size w9 wr)/\Hid (∀j (_:j<m) (h:j<(placesL md).length) s,senAt md (placesL md)[j]=some s->sentryB md s=true)) (fun i _=>PN-(intOf i).toNat)
    case atStart=>exact ⟨0,Nat.zero_le _,rfl,HB99.out,fun j hj=>absurd hj (Nat.not_lt_zero _)⟩
    obtain ⟨m,hml,rfl,HB,HS⟩:=hrel
    obtain ⟨wo,rfl⟩:∃wo,wo=wr:=⟨_,rfl⟩
    have HBM:=hid (HB9.out.trans (HB.out.mono HB9.out.size))
    by_cases hlt:m<PN
    ·have i1:(m:Int)<(PN:Int):=by omega
     have i2:(0:Int)<=(m:Int):=by omega
     have HML:=hid hlt
     obtain rfl:pa=some ⟨pb,po,none⟩:=HP0.out (by omega)
     have hmp:m<(placesL md).length:=by rw [HPN.out];exact hlt
     obtain ⟨s,hs⟩:=HSE.out m hmp
     obtain ⟨a0,a1,a2,ha⟩:∃a0 a1 a2,(placesL md)[m]'hmp=(a0,a1,a2):=⟨_,_,_,rfl⟩
     have hat:atS md (a0,a1,a2)=(s,true):=by rw [<-ha,atS,hs]
     have HAT:Hid (∀W,Below wo.heap.size wo W->Calls Tryz.prog 24 #[.agg (ModelV.cs ⟨va1,vc1,va2,vc2,va3,vc3,va4,vc4,va5,vc5⟩ md).toArray,.agg #[.int .i64 a0,.int .i64 a1,.int .i64 a2]] W (fun e w'=>e=.returned (.tuple #[.agg #[.int .u8 s.on,.string s.name,.string s.cond],.bool true])/\Below W.heap.size W w')):=fun W hb=>by
      have h:=rfAt_walk md ⟨va1,vc1,va2,vc2,va3,vc3,va4,vc4,va5,vc5⟩ (a0,a1,a2) W (HM.out W (HBM.out.trans (hb.mono HBM.out.size)))
      rw [hat] at h
      exact h
     have HPW:Hid (∀W',Below w9.heap.size w9 W'->(W'.cell? ⟨pb,po+m*3,none⟩=some (.int .i64 a0)/\W'.cell? ⟨pb,po+m*3+1,none⟩=some (.int .i64 a1)/\W'.cell? ⟨pb,po+m*3+2,none⟩=some (.int .i64 a2))):=fun W' hb=>by
      have h:=HPC.out W' hb
      refine ⟨h.cell m hmp 0 _ (by rw [ha];rfl),h.cell m hmp 1 _ (by rw [ha];rfl),h.cell m hmp 2 _ (by rw [ha];rfl)⟩
     have HSX:Hid (∀W',Below wo.heap.size wo W'->(Below wo.heap.size wo W'/\W'.cell? ⟨w.heap.size,0,none⟩=some (.string md.name)/\W'.cell? ⟨w.heap.size,1,none⟩=some (.slice va1 md.attrs.length vc1)/\W'.cell? ⟨w.heap.size,2,none⟩=some (.slice va2 md.events.length vc2)/\W'.cell? ⟨w.heap.size,3,none⟩=some (.slice va3 md.stages.length vc3)/\W'.cell? ⟨w.heap.size,4,none⟩=some (.slice va4 md.stones.length vc4)/\W'.cell? ⟨w.heap.size,5,none⟩=some (.slice va5 md.apart.length vc5)/\W'.cell? ⟨pb,po+m*3,none⟩=some (.int .i64 a0)/\W'.cell? ⟨pb,po+m*3+1,none⟩=some (.int .i64 a1)/\W'.cell? ⟨pb,po+m*3+2,none⟩=some (.int .i64 a2))):=fun W' hb=>by
      obtain ⟨q0,q1,q2,q3,q4,q5⟩:=box6 HX.out (HBM.out.trans (hb.mono HBM.out.size))
      obtain ⟨p0,p1,p2⟩:=HPW.out W' (HB.out.trans (hb.mono HB.out.size))
      exact ⟨hb,q0,q1,q2,q3,q4,q5,p0,p1,p2⟩
     have HSS:Hid (∀j (_:j<m+1) (h:j<(placesL md).length) s',sentryB md s=true->senAt md (placesL md)[j]=some s'->sentryB md s'=true):=fun j hj h s' hb hs'=>by
      rcases Nat.lt_or_ge j m with h1 | h1
      ·exact HS.out j h1 h s' hs'
      obtain rfl:j=m:=by omega
      rw [hs] at hs'
      injection hs' with hs'
      rw [<-hs'];exact hb
     have HNS2:Hid (sentryB md s=false->false=q):=fun h=>HNO.out fun hB=>by
      have:=hB.sen _ s hs
      rw [h] at this;cases this
     have k3:IntKind.i64.wrap ((m:Int)+1)=(m:Int)+1:=wrap_i64 (by omega) (by omega)
     have hq0:=(Below.refl wo.heap.size wo).drew
     clear hs ha hat hmp hlt HS
     go_upto_region 30 with fail
     go_cut [12,13] (fun t b wx=>(∃g:Nat,t=.pointer (some ⟨g,0,none⟩)/\Hid (Arr wx g 35 [.int .u8 s.on,.string s.name,.string s.cond]))/\b=.bool true/\Hid (Below wo.heap.size wo wx))
     case first =>
      refine wp_region_held_drew (S:=(fun W'=>Below wo.heap.size wo W'/\W'.cell? ⟨w.heap.size,0,none⟩=some (.string md.name)/\W'.cell? ⟨w.heap.size,1,none⟩=some (.slice va1 md.attrs.length vc1)/\W'.cell? ⟨w.heap.size,2,none⟩=some (.slice va2 md.events.length vc2)/\W'.cell? ⟨w.heap.size,3,none⟩=some (.slice va3 md.stages.length vc3)/\W'.cell? ⟨w.heap.size,4,none⟩=some (.slice va4 md.stones.length vc4)/\W'.cell? ⟨w.heap.size,5,none⟩=some (.slice va5 md.apart.length vc5)/\W'.cell? ⟨pb,po+m*3,none⟩=some (.int .i64 a0)/\W'.cell? ⟨pb,po+m*3+1,none⟩=some (.int .i64 a1)/\W'.cell? ⟨pb,po+m*3+2,none⟩=some (.int .i64 a2))) (by kernel_rfl) (HSX.out _ hq0) (fun hH=>?_)
      generalize wo.drew=wz at hq0 hH ⊢
      refine tK (i:=0) (oi:=⟨some 117,.load 31 (.tmp 1),31,"ref.go:174",#[],none⟩) (v:=.agg #[.string md.name,.slice va1 md.attrs.length vc1,.slice va2 md.events.length vc2,.slice va3 md.stages.length vc3,.slice va4 md.stones.length vc4,.slice va5 md.apart.length vc5]) (Or.inl ⟨by rfl,fun W hS=>by obtain ⟨-,q0,q1,q2,q3,q4,q5,-,-,-⟩:=hS;go_simp⟩) hH ?_
      refine tK (i:=1) (oi:=⟨some 118,.move (.tmp 10),42,"ref.go:174",#[],none⟩) (v:=.slice (some ⟨pb,po,none⟩) PN pc) (Or.inl ⟨by rfl,fun W hS=>by go_simp⟩) hH ?_
      refine tK (i:=2) (oi:=⟨some 119,.move (.tmp 11),3,"ref.go:174",#[],none⟩) (v:=.int .i64 (m:Int)) (Or.inl ⟨by rfl,fun W hS=>by go_simp⟩) hH ?_
      refine tK (i:=3) (oi:=⟨some 120,.indexAddr 42 (.tmp 118) (.tmp 119),0,"ref.go:174",#[⟨1,.data⟩,⟨2,.data⟩],none⟩) (v:=.pointer (some ⟨pb,po+m*3,none⟩)) (Or.inl ⟨by rfl,fun W hS=>by go_simp⟩) hH ?_
      refine tK (i:=4) (oi:=⟨some 121,.load 33 (.tmp 120),33,"ref.go:174",#[⟨3,.data⟩],none⟩) (v:=.agg #[.int .i64 a0,.int .i64 a1,.int .i64 a2]) (Or.inl ⟨by rfl,fun W hS=>by obtain ⟨-,-,-,-,-,-,-,p0,p1,p2⟩:=hS;go_simp⟩) hH ?_
      refine rD [5,9] ?_
      refine AllReadyH.cons rfl (fun K hK=>?_) (AllReadyH.cons rfl (fun K hK=>?_) AllReadyH.nil)
      ·go_simp
       go_at_call 24
       refine (HAT.out _ hH.1).mono ?_
       rintro e WQ9 ⟨rfl,hb⟩
       have hH2:=HSX.out _ (hH.1.trans (hb.mono hH.1.size))
       try (replace HBX:=hid (HBX.out.below hb HBX.out.lt))
       clear hb
       go_wp2_with fail
       refine kK hK hH2 (fun hH=>?_)
       clear hK K
       refine tK (i:=6) (oi:=⟨some 116,.move (.tmp 122),64,"ref.go:174",#[⟨5,.data⟩],none⟩) (v:=.tuple #[.agg #[.int .u8 s.on,.string s.name,.string s.cond],.bool true]) (Or.inl ⟨by rfl,fun W hS=>by go_simp⟩) hH ?_
       refine tK (i:=7) (oi:=⟨some 123,.extract (.tmp 116) 0,35,"ref.go:174",#[⟨6,.data⟩],none⟩) (v:=.agg #[.int .u8 s.on,.string s.name,.string s.cond]) (Or.inl ⟨by rfl,fun W hS=>by go_simp⟩) hH ?_
       refine tK (i:=8) (oi:=⟨some 124,.extract (.tmp 116) 1,4,"ref.go:174",#[⟨6,.data⟩,⟨10,.gcOnly .lateStores⟩],none⟩) (v:=.bool true) (Or.inl ⟨by rfl,fun W hS=>by go_simp⟩) hH ?_
       refine rD [9] ?_
       refine AllReadyH.cons rfl (fun K hK=>?_) AllReadyH.nil
       go_simp
       refine kK hK (HSX.out _ (hH.1.alloc hH.1.size _)) (fun hH=>?_)
       clear hK K
       first | have HBX:Hid (Arr (WQ9.alloc (.cells #[.int .u8 0,.string ⟨#[]⟩,.string ⟨#[]⟩] 35)) WQ9.heap.size 35 [.int .u8 0,.string ⟨#[]⟩,.string ⟨#[]⟩]):=Arr.new WQ9 _ _ | have HBX:Hid (Arr (wz.alloc (.cells #[.int .u8 0,.string ⟨#[]⟩,.string ⟨#[]⟩] 35)) wz.heap.size 35 [.int .u8 0,.string ⟨#[]⟩,.string ⟨#[]⟩]):=Arr.new wz _ _
       first | have HGE:=hid hH2.1.size | have HGE:=hid hq0.size
       generalize hWa:World.alloc _ (.cells #[.int .u8 0,.string ⟨#[]⟩,.string ⟨#[]⟩] 35)=Wa at HBX hH ⊢
       clear hWa
       try simp only [Array.length_toList]
       first | (generalize hgn:WQ9.heap.size=gn at HBX HGE ⊢;clear hgn) | (generalize hgn:wz.heap.size=gn at HBX HGE ⊢;clear hgn)
       refine rD [10] ?_
       refine AllReadyH.cons rfl (fun K hK=>?_) AllReadyH.nil
       have x0:=HBX.out.cell (j:=0) (by simp)
       have x1:=HBX.out.cell (j:=1) (by simp)
       have x2:=HBX.out.cell (j:=2) (by simp)
       have f0:=HBX.out.frozen 0
       have f1:=HBX.out.frozen 1
       have f2:=HBX.out.frozen 2
       simp only [gE0,gE1] at x0 x1 x2
       go_simp
       refine kK hK (HSX.out _ (((hH.1.setCell (p:=⟨_,0,none⟩) HGE.out _).setCell (p:=⟨_,1,none⟩) HGE.out _).setCell (p:=⟨_,2,none⟩) HGE.out _)) (fun hH=>?_)
       clear hK K
       refine rD [11] ?_
       refine AllReadyH.cons rfl (fun K hK=>?_) AllReadyH.nil
       go_simp
       refine kK hK hH (fun hH=>?_)
       clear hK K
       refine wpAnyH_done (by kernel_rfl) ?_ _
       go_wp2_with fail
       go_meet
       exact ⟨⟨_,rfl,(((HBX.out.set 0 (.int .u8 s.on)).set 1 (.string s.name)).set 2 (.string s.cond))⟩,rfl,hH.1⟩
      go_simp
      refine kK hK (HSX.out _ (hH.1.alloc hH.1.size _)) (fun hH=>?_)
      clear hK K
      first | have HBX:Hid (Arr (WQ9.alloc (.cells #[.int .u8 0,.string ⟨#[]⟩,.string ⟨#[]⟩] 35)) WQ9.heap.size 35 [.int .u8 0,.string ⟨#[]⟩,.string ⟨#[]⟩]):=Arr.new WQ9 _ _ | have HBX:Hid (Arr (wz.alloc (.cells #[.int .u8 0,.string ⟨#[]⟩,.string ⟨#[]⟩] 35)) wz.heap.size 35 [.int .u8 0,.string ⟨#[]⟩,.string ⟨#[]⟩]):=Arr.new wz _ _
      first | have HGE:=hid hH2.1.size | have HGE:=hid hq0.size
      generalize hWa:World.alloc _ (.cells #[.int .u8 0,.string ⟨#[]⟩,.string ⟨#[]⟩] 35)=Wa at HBX hH ⊢
      clear hWa
      try simp only [Array.length_toList]
      first | (generalize hgn:WQ9.heap.size=gn at HBX HGE ⊢;clear hgn) | (generalize hgn:wz.heap.size=gn at HBX HGE ⊢;clear hgn)
      refine rD [5] ?_
      refine AllReadyH.cons rfl (fun K hK=>?_) AllReadyH.nil
      go_simp
      go_at_call 24
      refine (HAT.out _ hH.1).mono ?_
      rintro e WQ9 ⟨rfl,hb⟩
      have hH2:=HSX.out _ (hH.1.trans (hb.mono hH.1.size))
      try (replace HBX:=hid (HBX.out.below hb HBX.out.lt))
      clear hb
      go_wp2_with fail
      refine kK hK hH2 (fun hH=>?_)
      clear hK K
      refine tK (i:=6) (oi:=⟨some 116,.move (.tmp 122),64,"ref.go:174",#[⟨5,.data⟩],none⟩) (v:=.tuple #[.agg #[.int .u8 s.on,.string s.name,.string s.cond],.bool true]) (Or.inl ⟨by rfl,fun W hS=>by go_simp⟩) hH ?_
      refine tK (i:=7) (oi:=⟨some 123,.extract (.tmp 116) 0,35,"ref.go:174",#[⟨6,.data⟩],none⟩) (v:=.agg #[.int .u8 s.on,.string s.name,.string s.cond]) (Or.inl ⟨by rfl,fun W hS=>by go_simp⟩) hH ?_
      refine tK (i:=8) (oi:=⟨some 124,.extract (.tmp 116) 1,4,"ref.go:174",#[⟨6,.data⟩,⟨10,.gcOnly .lateStores⟩],none⟩) (v:=.bool true) (Or.inl ⟨by rfl,fun W hS=>by go_simp⟩) hH ?_
      refine rD [10] ?_
      refine AllReadyH.cons rfl (fun K hK=>?_) AllReadyH.nil
      have x0:=HBX.out.cell (j:=0) (by simp)
      have x1:=HBX.out.cell (j:=1) (by simp)
      have x2:=HBX.out.cell (j:=2) (by simp)
      have f0:=HBX.out.frozen 0
      have f1:=HBX.out.frozen 1
      have f2:=HBX.out.frozen 2
      simp only [gE0,gE1] at x0 x1 x2
      go_simp
      refine kK hK (HSX.out _ (((hH.1.setCell (p:=⟨_,0,none⟩) HGE.out _).setCell (p:=⟨_,1,none⟩) HGE.out _).setCell (p:=⟨_,2,none⟩) HGE.out _)) (fun hH=>?_)
      clear hK K
      refine rD [11] ?_
      refine AllReadyH.cons rfl (fun K hK=>?_) AllReadyH.nil
      go_simp
      refine kK hK hH (fun hH=>?_)
      clear hK K
      refine wpAnyH_done (by kernel_rfl) ?_ _
      go_wp2_with fail
      go_meet
      exact ⟨⟨_,rfl,(((HBX.out.set 0 (.int .u8 s.on)).set 1 (.string s.name)).set 2 (.string s.cond))⟩,rfl,hH.1⟩
     obtain ⟨⟨g,rfl,HG⟩,rfl,HBc⟩:=hcut
     rename World=>wc
     have HBN:=hid (HB.out.trans (HBc.out.mono HB.out.size))
     have HBMc:=hid (HB9.out.trans (HBN.out.mono HB9.out.size))
     obtain ⟨y0,y1,y2,y3,y4,y5⟩:=box6 HX.out HBMc.out
     have x0:=HG.out.cell (j:=0) (by simp)
     have x1:=HG.out.cell (j:=1) (by simp)
     have x2:=HG.out.cell (j:=2) (by simp)
     simp only [gE0,gE1] at x0 x1 x2
     have HSY:=hid (rfSentry_walk md ⟨va1,vc1,va2,vc2,va3,vc3,va4,vc4,va5,vc5⟩ s wc HZ.out (HM.out wc HBMc.out))
     obtain ⟨r,hr⟩:∃r,sentryB md s=r:=⟨_,rfl⟩
     rw [hr] at HSY
     have HRR:=hid hr
     clear hr hq0 HG HBc HB HBM HSX HAT
     go_wp2_with fail
     refine HSY.out.mono ?_
     rintro e w12 ⟨rfl,hb12⟩
     have HB12:=hid (HBN.out.trans (hb12.mono HBN.out.size))
     clear hb12 HSY x0 x1 x2 y0 y1 y2 y3 y4 y5
     cases r with
     | false =>
      have HQ2:=hid (HNS2.out HRR.out)
      have HBF:=hid (HB1.out.trans ((HB9.out.trans (HB12.out.mono HB9.out.size)).mono HB1.out.size))
      go_wp2_with fail
      go_ret
      exact ⟨ret_bool HQ2.out,HBF.out⟩
     | true =>
      have HS3:Hid (∀j (_:j<m+1) (h:j<(placesL md).length) s,senAt md (placesL md)[j]=some s->sentryB md s=true):=fun j hj h s' hs'=>HSS.out j hj h s' HRR.out hs'
      clear HSS HNS2 HRR
      go_wp2_with fail
      go_roundw
      case rel=>exact ⟨m+1,by have:=HML.out;omega,by go_num,HB12,HS3⟩
      case measure=>simp only [intOf];have:=HML.out;omega
    obtain rfl:m=PN:=by omega
    have i1:¬(m:Int)<(m:Int):=by omega
    have HSN:Hid (∀p s,senAt md p=some s->sentryB md s=true):=fun p s hs=>by
     have hp:p∈placesL md:=mem_placesL.2 (by rw [hs];rfl)
     obtain ⟨j,hj,rfl⟩:=List.mem_iff_getElem.1 hp
     exact HS.out j (by rw [<-HPN.out];exact hj) hj s hs
    clear HS HP0 HPC HSE HB99
    go_wp2_with fail
    go_loopw [14] (fun i wr=>∃m:Nat,m<=md.apart.length/\i=.int .i64 (m:Int)/\Hid (Below w1.heap.size w1 wr)/\Hid (∀j (_:j<m) (h:j<md.apart.length),badPair md.apart[j]=false)) (fun i _=>md.apart.length-(intOf i).toNat)
    case atStart=>exact ⟨0,Nat.zero_le _,rfl,HBM.out,fun j hj=>absurd hj (Nat.not_lt_zero _)⟩
    clear HBM HB HB9
    obtain ⟨m,hml,rfl,HBM,HS⟩:=hrel
    obtain ⟨y0,y1,y2,y3,y4,y5⟩:=box6 HX.out HBM.out
    by_cases hlt:m<md.apart.length
    ·have i1:(m:Int)<(md.apart.length:Int):=by omega
     have i2:(0:Int)<=(m:Int):=by omega
     have HML:=hid hlt
     obtain ⟨b,off,ha,hbl,c0,c1⟩:=pair_at (HM.out wr HBM.out) hlt
     obtain rfl:va5=some ⟨b,off,none⟩:=ha
     have k3:IntKind.i64.wrap ((m:Int)+1)=(m:Int)+1:=wrap_i64 (by omega) (by omega)
     have HBAD:Hid (badPair (md.apart[m]'hlt)=true->false=q):=fun h=>HNO.out fun hB=>by
      have h1:=List.any_eq_false.1 hB.apart _ (List.getElem_mem hlt)
      exact h1 h
     have HS2:Hid (badPair (md.apart[m]'hlt)=false->∀j (_:j<m+1) (h:j<md.apart.length),badPair md.apart[j]=false):=fun hb j hj h=>by
      rcases Nat.lt_or_ge j m with h1 | h1
      ·exact HS.out j h1 h
      obtain rfl:j=m:=by omega
      exact hb
     obtain ⟨pr,hpr⟩:∃pr,md.apart[m]'hlt=pr:=⟨_,rfl⟩
     rw [hpr] at c0 c1 HBAD HS2
     obtain ⟨s0,s1⟩:=pr
     simp only at c0 c1
     rw [badPair_eq] at HBAD HS2
     simp only at HBAD HS2
     obtain ⟨wp,hwp⟩:∃wp,wr.alloc (.cells #[.string s0,.string s1] 95)=wp:=⟨_,rfl⟩
     have hp1:Arr wp wr.heap.size 95 [.string s0,.string s1]:=hwp▸Arr.new wr _ _
     have hbp:Below wr.heap.size wr wp:=hwp▸(Below.refl _ _).alloc (Nat.le_refl _) _
     have HPC2:Hid (∀W,Below wp.heap.size wp W->W.cell? ⟨wr.heap.size,0,none⟩=some (.string s0)/\W.cell? ⟨wr.heap.size,1,none⟩=some (.string s1)):=fun W hb=>by
      have z0:=hp1.cell (j:=0) (by simp)
      have z1:=hp1.cell (j:=1) (by simp)
      simp only [gE0,gE1] at z0 z1
      exact ⟨cellBelow2 hb z0,cellBelow2 hb z1⟩
     have HBP:=hid (HBM.out.trans (hbp.mono HBM.out.size))
     have HWP:=hid hwp
     have HN0:=hid (rfNamed_walkA s0 wp)
     have HN1:=hid (fun W=>rfNamed_walkA s1 W)
     obtain ⟨r0,hr0⟩:∃r,namedG s0=r:=⟨_,rfl⟩
     obtain ⟨r1,hr1⟩:∃r,namedG s1=r:=⟨_,rfl⟩
     rw [hr0] at HN0 HBAD HS2
     rw [hr1] at HN1 HBAD HS2
     obtain ⟨z0,z1⟩:=HPC2.out wp (Below.refl _ _)
     clear hpr hwp hp1 hbp hr0 hr1 HS
     go_upto_region 37 with fail
     rw [HWP.out]
     clear c0 c1
     cases r0 with
     | false =>
      have HQ2:=hid (HBAD.out (by simp))
      go_wp2_with fail
      refine HN0.out.mono ?_
      rintro e w13 ⟨rfl,hb13⟩
      have HBF:=hid (HB1.out.trans ((HBP.out.trans (hb13.mono HBP.out.size)).mono HB1.out.size))
      clear hb13 HN0
      go_wp2_with fail
      go_ret
      exact ⟨ret_bool HQ2.out,HBF.out⟩
     | true =>
      go_wp2_with fail
      refine HN0.out.mono ?_
      rintro e w13 ⟨rfl,hb13⟩
      have HB13:=hid (HBP.out.trans (hb13.mono HBP.out.size))
      have HBP13:=hid hb13
      clear hb13 HN0 z0 z1 y0 y1 y2 y3 y4 y5
      obtain ⟨z0,z1⟩:=HPC2.out w13 HBP13.out
      have HN2:=hid (HN1.out w13)
      clear HN1
      cases r1 with
      | false =>
       have HQ2:=hid (HBAD.out (by simp))
       go_wp2_with fail
       refine HN2.out.mono ?_
       rintro e w14 ⟨rfl,hb14⟩
       have HBF:=hid (HB1.out.trans ((HB13.out.trans (hb14.mono HB13.out.size)).mono HB1.out.size))
       clear hb14 HN2
       go_wp2_with fail
       go_ret
       exact ⟨ret_bool HQ2.out,HBF.out⟩
      | true =>
       cases he:s0.toList==s1.toList with
       | true =>
        have HQ2:=hid (HBAD.out (by rw [he];simp))
        go_wp2_with fail
        refine HN2.out.mono ?_
        rintro e w14 ⟨rfl,hb14⟩
        have HBF:=hid (HB1.out.trans ((HB13.out.trans (hb14.mono HB13.out.size)).mono HB1.out.size))
        clear z0 z1
        obtain ⟨z0,z1⟩:=HPC2.out w14 (HBP13.out.trans (hb14.mono HBP13.out.size))
        clear hb14 HN2
        go_wp2_with fail
        go_ret
        exact ⟨ret_bool HQ2.out,HBF.out⟩
       | false =>
        have HS3:=hid (HS2.out (by rw [he];simp))
        go_wp2_with fail
        refine HN2.out.mono ?_
        rintro e w14 ⟨rfl,hb14⟩
        have HB14:=hid (HB13.out.trans (hb14.mono HB13.out.size))
        clear z0 z1
        obtain ⟨z0,z1⟩:=HPC2.out w14 (HBP13.out.trans (hb14.mono HBP13.out.size))
        clear hb14 HN2 HS2 HBAD
        go_wp2_with fail
        refine ⟨⟨m+1,by have:=HML.out;omega,by go_num,HB14,HS3⟩,by simp only [intOf];have:=HML.out;omega⟩
    obtain rfl:m=md.apart.length:=by omega
    have i1:¬(md.apart.length:Int)<(md.apart.length:Int):=by omega
    have HQ2:Hid (true=q):=HYES.out ⟨HR1.out,HR2.out,HR3.out,HKD.out,HSG.out,HSN.out,any_miss fun j hj=>HS.out j hj hj⟩
    have HBF:=hid (HB1.out.trans (HBM.out.mono HB1.out.size))
    clear HS
    go_wp2_with fail
    go_ret
    exact ⟨ret_bool HQ2.out,HBF.out⟩
def NStr (lo:Nat) (w:World) (v:Value) (xs:List ByteArray):Prop:=(xs=[]/\v=.slice none 0 0)\/(0<xs.length/\∃b o c,v=.slice (some ⟨b,o,none⟩) xs.length c/\xs.length<=c/\(lo<=b/\b<w.heap.size)/\∀j (hj:j<xs.length),w.cell? ⟨b,o+j,none⟩=some (.string xs[j]))
theorem NStr.keep {lo:Nat} {w w':World} {v:Value} {xs:List ByteArray} (h:NStr lo w v xs) (hb:Below w.heap.size w w'):NStr lo w' v xs:=by
 rcases h with h | ⟨h0,b,o,c,rfl,hc,⟨hlo,hlt⟩,hcell⟩
 ·exact .inl h
 exact .inr ⟨h0,b,o,c,rfl,hc,⟨hlo,Nat.lt_of_lt_of_le hlt hb.size⟩,fun j hj=>(hb.cell (p:=⟨b,o+j,none⟩) hlt).trans (hcell j hj)⟩
theorem OwnT.nstr {W:World} {B:Nat} {va:Option Addr} {vc L:Nat} {xs:List ByteArray} (h:OwnT W B va vc L xs) (h0:0<xs.length) {lo:Nat} (hlo:lo<=B):NStr lo W (.slice va L vc) xs:=by
 obtain ⟨rfl,ho⟩:=h
 obtain ⟨g,rfl,h1,h2,h3,-⟩:=ho.cell (by omega)
 refine .inr ⟨h0,g,0,vc,rfl,ho.cap.1,⟨Nat.le_trans hlo h1,h2⟩,fun j hj=>?_⟩
 rw [Nat.zero_add]
 exact h3 j _ (by rw [List.getElem?_map,List.getElem?_eq_getElem hj];rfl)
theorem strs_of {B:Nat} {w:World} {b o c:Nat} {xs:List ByteArray} (hle:xs.length<=c) (hb:b<B) (hc:∀j (hj:j<xs.length),w.cell? ⟨b,o+j,none⟩=some (.string xs[j])):Strs B w (.slice (some ⟨b,o,none⟩) xs.length c) xs:=by
 refine ⟨_,c,b,o,rfl,hle,fun _=>⟨rfl,hb⟩,fun j x hj=>?_⟩
 have hjl:=lt_of_some hj
 rw [List.getElem?_eq_getElem hjl] at hj
 injection hj with hj
 refine ⟨fun _=>.string x,fun i hi=>?_,rfl⟩
 obtain rfl:i=0:=by omega
 have h:=hc j hjl
 rw [hj] at h
 simpa using h
def PutsEnd (lo:Nat) (xs:List ByteArray) (s:ByteArray) (w:World) (e:Ending) (w':World):Prop:=Below w.heap.size w w'/\∃u ys,e=.returned u/\NStr lo w' u ys/\ys.length<=xs.length+1/\∀x,x∈ys↔x∈xs\/x=s
theorem rfPut_walk (lo:Nat) (s:ByteArray) (v:Value) (xs:List ByteArray) (w:World) (hlo:lo<=w.heap.size) (hl:xs.length<=1000000) (h:NStr lo w v xs) :
  Calls Tryz.prog 128 #[v,.string s] w (PutsEnd lo xs s w):=by
 rcases h with ⟨rfl,rfl⟩ | ⟨h0,b,o,c,rfl,hle,⟨hlob,hbl⟩,hcell⟩
 ·obtain ⟨va,vc,w2,hap,ho,hb⟩:=(OwnT.nil w w.heap.size).snoc s (Nat.le_refl _) (by omega)
  have HE:Hid (PutsEnd lo [] s w (.returned (.slice va 1 vc)) w2):=⟨hb,_,[s],rfl,ho.nstr (by simp) hlo,by simp,fun x=>by simp⟩
  have HAP:=hid hap
  have HAP0:=hid (run_append_zero (n:=0) elemStr w 26 none none 0 0 (Nat.le_refl _))
  have HAP2:=hid (run_append_zero elemStr w2 26 va none vc 0 ho.2.cap.1)
  clear hap ho hb
  go_enter Tryz.func128,Tryz.ntmps128
  go_wp2_with fail
  go_loopw [6] (fun i wr=>i=.int .i64 0/\wr=w) (fun _ _=>0)
  case atStart=>exact ⟨rfl,rfl⟩
  obtain ⟨rfl,rfl⟩:=hrel
  go_wp2_with (first | (at_builtin;refine wpList_append_run (by rfl) (.tmp 34) (.tmp 37) 26 (by rfl) (by rfl) (by rfl) HAP0.out ?_) | (at_builtin;refine wpList_append_run (by rfl) (.tmp 39) (.tmp 41) 26 (by rfl) (by rfl) (by rfl) HAP.out ?_) | (at_builtin;refine wpList_append_run (by rfl) (.tmp 43) (.tmp 46) 26 (by rfl) (by rfl) (by rfl) HAP2.out ?_))
  go_ret
  exact HE.out
 have HC:=hid hcell
 have hcs:∀W,Below w.heap.size w W->∀j (hj:j<xs.length),W.cell? ⟨b,o+j,none⟩=some (.string xs[j]):=fun W hb j hj=>(hb.cell (p:=⟨b,o+j,none⟩) hbl).trans (hcell j hj)
 have HCS:=hid hcs
 clear hcell hcs
 have HCH:Hid (∀m,m<=xs.length->∃va1 vc1 w2 va2 vc2 w3 va3 vc3 w4,
   (Builtin.append_ #[26,26] 26 #[.slice none 0 0,.slice (some ⟨b,o,none⟩) m c]).run Tryz.prog w=.ok (.slice va1 m vc1) w2 /\
   (Builtin.append_ #[26,26] 26 #[.slice va1 m vc1,.slice (some ⟨w2.heap.size,0,none⟩) 1 1]).run Tryz.prog (w2.alloc (.cells #[.string s] 9))=.ok (.slice va2 (m+1) vc2) w3 /\
   (Builtin.append_ #[26,26] 26 #[.slice va2 (m+1) vc2,.slice (some ⟨b,o+m,none⟩) (xs.length-m) (c-m)]).run Tryz.prog w3=.ok (.slice va3 (m+1+(xs.length-m)) vc3) w4 /\
   PutsEnd lo xs s w (.returned (.slice va3 (m+1+(xs.length-m)) vc3)) w4):=fun m hm=>by
  have t1:(xs.take m).length=m:=by rw [List.length_take];omega
  have s1:Strs w.heap.size w (.slice (some ⟨b,o,none⟩) (xs.take m).length c) (xs.take m):=strs_of (by omega) hbl (fun j hj=>by
   rw [List.getElem_take];exact HCS.out w (Below.refl _ _) j (by omega))
  obtain ⟨va1,vc1,w2,r1,o1,b1⟩:=(OwnT.nil w w.heap.size).cat (Nat.le_refl _) (by omega) s1
  rw [t1,Nat.zero_add] at r1 o1
  obtain ⟨va2,vc2,w3,r2,o2,b2⟩:=o1.snoc s b1.size (by omega)
  have b13:Below w.heap.size w w3:=b1.trans b2
  have t3:(xs.drop m).length=xs.length-m:=List.length_drop ..
  have s3:Strs w3.heap.size w3 (.slice (some ⟨b,o+m,none⟩) (xs.drop m).length (c-m)) (xs.drop m):=strs_of (by omega) (Nat.lt_of_lt_of_le hbl b13.size) (fun j hj=>by
   rw [List.getElem_drop,Nat.add_assoc];exact HCS.out w3 b13 (m+j) (by omega))
  obtain ⟨va3,vc3,w4,r3,o3,b3⟩:=o2.cat b13.size (by omega) s3
  rw [t3] at r3 o3
  refine ⟨va1,vc1,w2,va2,vc2,w3,va3,vc3,w4,r1,r2,r3,b13.trans b3,_,_,rfl,o3.nstr (by simp;omega) hlo,by simp;omega,fun x=>?_⟩
  have hsp:x∈xs↔x∈xs.take m\/x∈xs.drop m:=by rw [<-List.mem_append,List.take_append_drop]
  rw [hsp]
  simp only [List.nil_append,List.mem_append,List.mem_singleton]
  constructor
  ·rintro ((h | h) | h)
   ·exact .inl (.inl h)
   ·exact .inr h
   exact .inl (.inr h)
  rintro ((h | h) | h)
  ·exact .inl (.inl h)
  ·exact .inr h
  exact .inl (.inr h)
 have HCN:Hid (∃va1 vc1 w2 va2 vc2 w3,
   (Builtin.append_ #[26,26] 26 #[.slice none 0 0,.slice (some ⟨b,o,none⟩) xs.length c]).run Tryz.prog w=.ok (.slice va1 xs.length vc1) w2 /\
   (Builtin.append_ #[26,26] 26 #[.slice va1 xs.length vc1,.slice (some ⟨w2.heap.size,0,none⟩) 1 1]).run Tryz.prog (w2.alloc (.cells #[.string s] 9))=.ok (.slice va2 (xs.length+1) vc2) w3 /\
   (∀a2 c2,(Builtin.append_ #[26,26] 26 #[.slice va2 (xs.length+1) vc2,.slice a2 0 c2]).run Tryz.prog w3=.ok (.slice va2 (xs.length+1) vc2) w3) /\
   PutsEnd lo xs s w (.returned (.slice va2 (xs.length+1) vc2)) w3):=by
  have s1:Strs w.heap.size w (.slice (some ⟨b,o,none⟩) xs.length c) xs:=strs_of hle hbl (fun j hj=>HCS.out w (Below.refl _ _) j hj)
  obtain ⟨va1,vc1,w2,r1,o1,b1⟩:=(OwnT.nil w w.heap.size).cat (Nat.le_refl _) (by omega) s1
  rw [Nat.zero_add] at r1 o1
  obtain ⟨va2,vc2,w3,r2,o2,b2⟩:=o1.snoc s b1.size (by omega)
  refine ⟨va1,vc1,w2,va2,vc2,w3,r1,r2,fun a2 c2=>run_append_zero elemStr w3 _ va2 a2 vc2 c2 o2.2.cap.1,b1.trans b2,_,_,rfl,o2.nstr (by simp) hlo,by simp,fun x=>by simp⟩
 have HSELF:Hid (∀m:Nat,xs[m]? = some s->PutsEnd lo xs s w (.returned (.slice (some ⟨b,o,none⟩) xs.length c)) w):=fun m he=>by
  refine ⟨Below.refl _ _,_,xs,rfl,.inr ⟨h0,b,o,c,rfl,hle,⟨hlob,hbl⟩,fun j hj=>HC.out j hj⟩,by omega,fun x=>⟨.inl,?_⟩⟩
  rintro (h | h)
  ·exact h
  rw [h];exact List.mem_of_getElem? he
 obtain ⟨n,hn⟩:∃n,xs.length=n:=⟨_,rfl⟩
 have HN:=hid hn
 simp only [hn] at HCH HCN HSELF
 rw [hn] at hl h0 hle ⊢
 clear hn HCS
 go_enter Tryz.func128,Tryz.ntmps128
 go_wp2_with fail
 go_loopw [6] (fun i wr=>∃m:Nat,m<=n/\i=.int .i64 (m:Int)/\wr=w) (fun i _=>n-(intOf i).toNat)
 case atStart=>exact ⟨0,Nat.zero_le _,rfl,rfl⟩
 obtain ⟨m,hml,rfl,rfl⟩:=hrel
 have HCM:=hid (HCH.out m hml)
 by_cases hlt:m<n
 ·have i1:(m:Int)<(n:Int):=by omega
  have i2:(0:Int)<=(m:Int):=by omega
  have i3:(m:Int)<=(n:Int):=by omega
  have i4:(m:Int)<=(c:Int):=by omega
  have HML:=hid hlt
  have hmx:m<xs.length:=by rw [HN.out];exact hlt
  have c0:=HC.out m hmx
  obtain ⟨sm,hsm⟩:∃sm,xs[m]'hmx=sm:=⟨_,rfl⟩
  have HSF:Hid (sm=s->PutsEnd lo xs s wr (.returned (.slice (some ⟨b,o,none⟩) n c)) wr):=fun e=>HSELF.out m (by rw [List.getElem?_eq_getElem hmx,hsm,e])
  rw [hsm] at c0
  have k3:IntKind.i64.wrap ((m:Int)+1)=(m:Int)+1:=wrap_i64 (by omega) (by omega)
  clear hsm HCH HCN HSELF
  cases hbs:Op.bytesLess sm.toList s.toList with
  | true =>
   go_wp2_with fail
   refine ⟨⟨m+1,by have:=HML.out;omega,by go_num,by first | trivial | rfl⟩,by simp only [intOf];have:=HML.out;omega⟩
  | false =>
   cases he:sm.toList==s.toList with
   | true =>
    have HE:=hid (HSF.out (by rw [ba_eq,decide_eq_true_eq] at he;exact he))
    clear HSF HCM
    go_wp2_with fail
    go_ret
    exact HE.out
   | false =>
    obtain ⟨va1,vc1,w2,va2,vc2,w3,va3,vc3,w4,r1,r2,r3,hend⟩:=HCM.out
    have R1:=hid r1
    have R2:=hid r2
    have R3:=hid r3
    have HE:=hid hend
    clear r1 r2 r3 hend HSF HCM
    go_wp2_with (first | (at_builtin;refine wpList_append_run (by rfl) (.tmp 34) (.tmp 37) 26 (by rfl) (by rfl) (by rfl) R1.out ?_) | (at_builtin;refine wpList_append_run (by rfl) (.tmp 39) (.tmp 41) 26 (by rfl) (by rfl) (by rfl) R2.out ?_) | (at_builtin;refine wpList_append_run (by rfl) (.tmp 43) (.tmp 46) 26 (by rfl) (by rfl) (by rfl) R3.out ?_))
    go_ret
    exact HE.out
 obtain rfl:m=n:=by omega
 have i1:¬(m:Int)<(m:Int):=by omega
 have i2:(0:Int)<=(m:Int):=by omega
 have i4:(m:Int)<=(c:Int):=by omega
 obtain ⟨va1,vc1,w2,va2,vc2,w3,r1,r2,r3,hend⟩:=HCN.out
 have R1:=hid r1
 have R2:=hid r2
 have R3:=hid r3
 have HE:=hid hend
 clear r1 r2 r3 hend HCM HCH HSELF HCN
 go_wp2_with (first | (at_builtin;refine wpList_append_run (by rfl) (.tmp 34) (.tmp 37) 26 (by rfl) (by rfl) (by rfl) R1.out ?_) | (at_builtin;refine wpList_append_run (by rfl) (.tmp 39) (.tmp 41) 26 (by rfl) (by rfl) (by rfl) R2.out ?_) | (at_builtin;refine wpList_append_run (by rfl) (.tmp 43) (.tmp 46) 26 (by rfl) (by rfl) (by rfl) (R3.out _ _) ?_))
 all_goals
  go_ret
  exact HE.out
def NamedGEnd (lo:Nat) (xs nm:List ByteArray) (w:World) (e:Ending) (w':World):Prop:=Below w.heap.size w w'/\∃u ys,e=.returned u/\NStr lo w' u ys/\ys.length<=xs.length+nm.length/\∀x,x∈ys↔x∈xs\/x∈nm
def accN (NM:Nat->List ByteArray) (m:Nat):List ByteArray:=(List.range m).flatMap NM
theorem accN_succ (NM:Nat->List ByteArray) (m:Nat):accN NM (m+1)=accN NM m++NM m:=by
 unfold accN;rw [List.range_succ,List.flatMap_append];simp
theorem NStr.slice {lo:Nat} {w:World} {v:Value} {xs:List ByteArray} (h:NStr lo w v xs):∃a n c,v=.slice a n c:=by
 rcases h with ⟨-,rfl⟩ | ⟨-,b,o,c,rfl,-⟩
 ·exact ⟨_,_,_,rfl⟩
 exact ⟨_,_,_,rfl⟩
theorem rfNamedG_gen (lo kind K:Nat) (n:Int) (tx:ByteArray) (g:GD) (cs:List Value) (v:Value) (xs:List ByteArray) (w:World) (hg:g=.node K n tx g.kids) (hL:g.kids.length=kidsK K) (hkd:kind<=7) (NM:Nat->List ByteArray) (nm:List ByteArray)
  (hnm:nm=if K=kind then [tx] else accN NM (kidsK K)) (hx:xs.length+nm.length<=500000) (h:GIn w g cs) (hlo:lo<=w.heap.size) (hv:NStr lo w v xs)
  (ih:∀m (hm:m<g.kids.length) (cs:List Value) (W:World) (u:Value) (ys:List ByteArray),GIn W g.kids[m] cs->lo<=W.heap.size->NStr lo W u ys->ys.length+(NM m).length<=500000->Calls Tryz.prog 98 #[.agg cs.toArray,.int .u8 (kind:Int),u] W (NamedGEnd lo ys (NM m) W)) :
  Calls Tryz.prog 98 #[.agg cs.toArray,.int .u8 (kind:Int),v] w (NamedGEnd lo xs nm w):=by
 obtain ⟨k,n',sx,a,c,b,off,heg,rfl,hl,-,hb,hk⟩:=h.kid
 rw [hg] at heg
 simp only [GD.node.injEq] at heg
 obtain ⟨rfl,rfl,rfl,-⟩:=heg
 have HK:=hid hk
 have HIH:=hid ih
 obtain ⟨va,vn,vc,rfl⟩:=hv.slice
 obtain ⟨l,hl'⟩:∃l,g.kids.length=l:=⟨_,rfl⟩
 have hlk:kidsK K=l:=by rw [<-hL,hl']
 rw [hlk] at hnm
 rw [hl'] at hb hl ⊢
 have HL:=hid hl'
 unfold maxLen at hl
 have hl2:l<=2:=by rw [<-hlk];unfold kidsK;split<;>(try split)<;>omega
 obtain ⟨w1,hw1⟩:∃w1,w.alloc (.cells #[.int .u8 K,.int .i64 n,.string tx,.slice a l c] 80)=w1:=⟨_,rfl⟩
 have hb1:Below w.heap.size w w1:=hw1▸(Below.refl _ _).alloc (Nat.le_refl _) _
 have hG:Arr w1 w.heap.size 80 [.int .u8 K,.int .i64 n,.string tx,.slice a l c]:=hw1▸Arr.new w _ _
 have HV:=hid (hv.keep hb1)
 have HB1:=hid hb1
 have HW1:=hid hw1
 have HG:=hid hG
 obtain ⟨z0,z1,z2,z3⟩:=box4 hG (Below.refl _ _)
 have HX:=hid hx
 have HNM:=hid hnm
 clear hk hl' h hb1 hG hg hL ih hw1 hv hx
 by_cases hKk:K=kind
 ·have e0:((K:Int)==(kind:Int))=true:=by simp [hKk]
  have hl0:l=0:=by rw [<-hlk];unfold kidsK;rw [if_pos (by omega)]
  rw [if_pos hKk] at hnm
  subst hnm
  have HP:=hid (rfPut_walk lo tx _ xs w1 (Nat.le_trans hlo HB1.out.size) (by have:=HX.out;omega) HV.out)
  clear hlk hKk HNM hb
  subst hl0
  go_enter Tryz.func98,Tryz.ntmps98
  go_upto_region 1 with fail
  rw [HW1.out]
  go_wp2_with fail
  refine HP.out.mono ?_
  rintro e w2 ⟨hb2,u,ys,rfl,hu,hlen,hmem⟩
  have HE:Hid (NamedGEnd lo xs [tx] w (.returned u) w2):=⟨HB1.out.trans (hb2.mono HB1.out.size),u,ys,rfl,hu,hlen,fun x=>by rw [hmem];simp⟩
  clear z0 z1 z2 z3
  obtain ⟨z0,z1,z2,z3⟩:=box4 HG.out hb2
  clear hb2 hu hlen hmem HP
  go_wp2_with fail
  go_loopw [2,7] (fun q i wr=>q=u/\i=.int .i64 0/\wr=w2) (fun _ _ _=>0)
  case atStart=>exact ⟨rfl,rfl,rfl⟩
  obtain ⟨rfl,rfl,rfl⟩:=hrel
  go_wp2_with fail
  go_ret
  exact HE.out
 have e0:((K:Int)==(kind:Int))=false:=by simp;omega
 rw [if_neg hKk] at hnm
 have HACC:Hid (nm=accN NM l):=hnm
 clear hlk hKk HNM hnm
 go_enter Tryz.func98,Tryz.ntmps98
 go_upto_region 1 with fail
 rw [HW1.out]
 go_wp2_with fail
 go_loopw [2,7] (fun u i wr=>∃(m:Nat) (ys:List ByteArray),m<=l/\i=.int .i64 (m:Int)/\Hid (NStr lo wr u ys)/\Hid (ys.length<=xs.length+(accN NM m).length/\∀x,x∈ys↔x∈xs\/x∈accN NM m)/\Hid (Below w1.heap.size w1 wr)) (fun _ i _=>l-(intOf i).toNat)
 case atStart=>exact ⟨0,xs,Nat.zero_le _,rfl,HV.out,⟨by simp [accN],fun x=>by simp [accN]⟩,Below.refl _ _⟩
 obtain ⟨m,ys,hml,rfl,HU,HY,HB⟩:=hrel
 obtain ⟨ua,un,uc,rfl⟩:=HU.out.slice
 clear z0 z1 z2 z3
 obtain ⟨z0,z1,z2,z3⟩:=box4 HG.out HB.out
 have HBB:=hid (HB1.out.trans (HB.out.mono HB1.out.size))
 by_cases hlt:m<l
 ·obtain ⟨rfl,hbl⟩:=hb (by omega)
  have i1:(m:Int)<(l:Int):=by omega
  have i2:(0:Int)<=(m:Int):=by omega
  have HML:=hid hlt
  have hmk:m<g.kids.length:=by rw [HL.out];exact hlt
  obtain ⟨c0,c1,c2,c3,y0,y1,y2,y3,hgi⟩:=HK.out m hmk
  replace y0:=(HBB.out.cell (p:=⟨b,off+m*4,none⟩) hbl).trans y0
  replace y1:=(HBB.out.cell (p:=⟨b,off+m*4+1,none⟩) hbl).trans y1
  replace y2:=(HBB.out.cell (p:=⟨b,off+m*4+2,none⟩) hbl).trans y2
  replace y3:=(HBB.out.cell (p:=⟨b,off+m*4+3,none⟩) hbl).trans y3
  obtain ⟨k2,n2,s2,a2,l2,cc2,he⟩:=hgi.four
  simp only [List.cons.injEq,and_true] at he
  obtain ⟨rfl,rfl,rfl,rfl⟩:=he
  have hcap:ys.length+(NM m).length<=500000:=by
   have h1:(accN NM (m+1)).length<=(accN NM l).length:=range_len_le _ (by omega)
   rw [accN_succ,List.length_append,<-HACC.out] at h1
   have h2:=HY.out.1
   have h3:=HX.out
   omega
  have HIH2:=hid (HIH.out m hmk _ wr _ ys (hgi.keepB HBB.out) (Nat.le_trans hlo HBB.out.size) HU.out hcap)
  have wr1:IntKind.i64.wrap ((m:Int)+1)=(m:Int)+1:=wrap_i64 (by omega) (by omega)
  clear hgi hcap hmk
  go_wp2_with fail
  refine HIH2.out.mono ?_
  rintro e w2 ⟨hb2,u2,ys2,rfl,hu2,hlen2,hmem2⟩
  have HB2:=hid (HB.out.trans (hb2.mono HB.out.size))
  have HU2:=hid hu2
  have HY2:Hid (ys2.length<=xs.length+(accN NM (m+1)).length/\∀x,x∈ys2↔x∈xs\/x∈accN NM (m+1)):=by
   obtain ⟨h1,h2⟩:=HY.out
   refine ⟨by rw [accN_succ,List.length_append];omega,fun x=>?_⟩
   rw [hmem2,h2,accN_succ,List.mem_append,or_assoc]
  clear hb2 hu2 hlen2 hmem2 HIH2 HY HU
  go_wp2_with fail
  refine ⟨⟨m+1,ys2,by have:=HML.out;omega,by go_num,HU2,HY2,HB2⟩,by simp only [intOf];have:=HML.out;omega⟩
 obtain rfl:m=l:=by omega
 have i1:¬(m:Int)<(m:Int):=by omega
 have HE:Hid (NamedGEnd lo xs nm w (.returned (.slice ua un uc)) wr):=by
  obtain ⟨h1,h2⟩:=HY.out
  exact ⟨HBB.out,_,ys,rfl,HU.out,by rw [HACC.out];exact h1,fun x=>by rw [h2,HACC.out]⟩
 clear HY HU
 go_wp2_with fail
 go_ret
 exact HE.out
theorem rfNamedG_walk (lo kind:Nat) (hkd:5<=kind/\kind<=7):∀(t:GT) (cs:List Value) (v:Value) (xs:List ByteArray) (w:World),t.may->xs.length+(namesOf kind t).length<=500000->GIn w t.toGD cs->lo<=w.heap.size->NStr lo w v xs ->
  Calls Tryz.prog 98 #[.agg cs.toArray,.int .u8 (kind:Int),v] w (NamedGEnd lo xs (namesOf kind t) w)
 | .leaf k n s,cs,v,xs,w,hm,hx,h,hlo,hv=>by
  have hk:k<=7:=by rcases hm with ⟨h1,-⟩ | ⟨h1,-⟩ | ⟨h1,-⟩ | ⟨h1,-⟩<;>omega
  have hkk:kidsK k=0:=by unfold kidsK;rw [if_pos hk]
  exact rfNamedG_gen lo kind k n s (GT.leaf k n s).toGD cs v xs w rfl hkk.symm hkd.2 (fun _=>[]) _ (by rw [hkk];rfl) hx h hlo hv (fun m hm'=>absurd hm' (Nat.not_lt_zero _))
 | .one k x,cs,v,xs,w,hm,hx,h,hlo,hv=>by
  obtain ⟨rfl,hxm⟩:=hm
  refine rfNamedG_gen lo kind 8 0 ⟨#[]⟩ (GT.one 8 x).toGD cs v xs w rfl rfl hkd.2 (fun _=>namesOf kind x) _ ?_ hx h hlo hv (fun m hm' cs W u ys hg hlw hu hl=>?_)
  ·rw [if_neg (by omega)]
   show namesOf kind x=accN (fun _=>namesOf kind x) 1
   simp [accN]
  have hm0:m=0:=by
   have:m<1:=hm'
   omega
  subst hm0
  exact rfNamedG_walk lo kind hkd x cs u ys W hxm hl hg hlw hu
 | .two k x y,cs,v,xs,w,hm,hx,h,hlo,hv=>by
  obtain ⟨hk,hxm,hym⟩:=hm
  have hkk:kidsK k=2:=by unfold kidsK;rw [if_neg (by omega),if_neg (by omega)]
  refine rfNamedG_gen lo kind k 0 ⟨#[]⟩ (GT.two k x y).toGD cs v xs w rfl hkk.symm hkd.2 (fun j=>if j=0 then namesOf kind x else namesOf kind y) _ ?_ hx h hlo hv (fun m hm' cs W u ys hg hlw hu hl=>?_)
  ·rw [if_neg (by omega),hkk,accN_succ,accN_succ]
   simp [accN,namesOf]
  have:m<2:=hm'
  rcases (show m=0\/m=1 by omega) with rfl | rfl
  ·exact rfNamedG_walk lo kind hkd x cs u ys W hxm hl hg hlw hu
  exact rfNamedG_walk lo kind hkd y cs u ys W hym hl hg hlw hu
def NamesGEnd (t:GT) (w:World) (e:Ending) (w':World):Prop:=Below w.heap.size w w'/\∃u5 u6 u7 l6 l7,e=.returned (.tuple #[u5,u6,u7,.int .i64 0])/\NStr w.heap.size w' u6 l6/\NStr w.heap.size w' u7 l7/\l6.length<=60000/\l7.length<=60000/\(∀x,x∈l6↔x∈namesOf 6 t)/\(∀x,x∈l7↔x∈namesOf 7 t)
theorem ret_nm {W:World} {a:Act} {v2 v3 v4 v5:Value} {R:Ending->World->Prop} (h2:a.tmps.getD 2 undef=v2) (h3:a.tmps.getD 3 undef=v3) (h4:a.tmps.getD 4 undef=v4) (h5:a.tmps.getD 5 undef=v5) (hd:a.defers=[])
  (hR:R (.returned (.tuple #[v2,v3,v4,v5])) W):bodyPost Tryz.prog Tryz.f64 R .ret a W:=by
 refine bodyPost_ret ?_ hd hR
 have h2':a.tmps[2]?.getD undef=v2:=by simpa using h2
 have h3':a.tmps[3]?.getD undef=v3:=by simpa using h3
 have h4':a.tmps[4]?.getD undef=v4:=by simpa using h4
 have h5':a.tmps[5]?.getD undef=v5:=by simpa using h5
 simp [results,Tryz.results64,h2',h3',h4',h5',go_sem]
theorem rfNamesG_walk (t:GT) (cs:List Value) (w:World) (hm:t.may) (hd:t.deep<=32) (hs:t.toGD.size<=60000) (h:GIn w t.toGD cs) :
  Calls Tryz.prog 64 #[.agg cs.toArray] w (NamesGEnd t w):=by
 obtain ⟨k,n,sx,a,l,c,rfl⟩:=h.four
 obtain ⟨w1,hw1⟩:∃w1,w.alloc (.cells #[.int .u8 k,.int .i64 n,.string sx,.slice a l c] 80)=w1:=⟨_,rfl⟩
 have hb1:Below w.heap.size w w1:=hw1▸(Below.refl _ _).alloc (Nat.le_refl _) _
 have hx1:Arr w1 w.heap.size 80 [.int .u8 k,.int .i64 n,.string sx,.slice a l c]:=hw1▸Arr.new w [.int .u8 k,.int .i64 n,.string sx,.slice a l c] _
 have HA:=hid (rfAsked_walk t _ w1 hm hd hs (h.keepB hb1))
 have HL5:=hid (namesOf_len 5 t)
 have HL6:=hid (namesOf_len 6 t)
 have HL7:=hid (namesOf_len 7 t)
 have HN5:=hid (fun W (hb:Below w.heap.size w W)=>rfNamedG_walk w.heap.size 5 (by omega) t _ (.slice none 0 0) [] W hm (by have:=HL5.out;simp only [List.length_nil];omega) (h.keepB hb) hb.size (.inl ⟨rfl,rfl⟩))
 have HN6:=hid (fun W (hb:Below w.heap.size w W)=>rfNamedG_walk w.heap.size 6 (by omega) t _ (.slice none 0 0) [] W hm (by have:=HL6.out;simp only [List.length_nil];omega) (h.keepB hb) hb.size (.inl ⟨rfl,rfl⟩))
 have HN7:=hid (fun W (hb:Below w.heap.size w W)=>rfNamedG_walk w.heap.size 7 (by omega) t _ (.slice none 0 0) [] W hm (by have:=HL7.out;simp only [List.length_nil];omega) (h.keepB hb) hb.size (.inl ⟨rfl,rfl⟩))
 have HS:=hid hs
 have HB1:=hid hb1
 have HX1:=hid hx1
 have HW1:=hid hw1
 obtain ⟨z0,z1,z2,z3⟩:=box4 hx1 (Below.refl _ _)
 clear h hm hd hs hb1 hx1 hw1
 go_enter Tryz.func64,Tryz.ntmps64
 go_upto_region 1 with fail
 rw [HW1.out]
 go_wp2_with fail
 refine HA.out.mono ?_
 rintro e w2 ⟨rfl,hb2⟩
 have HB2:=hid (HB1.out.trans (hb2.mono HB1.out.size))
 have HB12:=hid hb2
 have HSX:Hid (∀W',Below w2.heap.size w2 W'->(Below w2.heap.size w2 W'/\W'.cell? ⟨w.heap.size,0,none⟩=some (.int .u8 k)/\W'.cell? ⟨w.heap.size,1,none⟩=some (.int .i64 n)/\W'.cell? ⟨w.heap.size,2,none⟩=some (.string sx)/\W'.cell? ⟨w.heap.size,3,none⟩=some (.slice a l c))):=fun W' hb=>⟨hb,box4 HX1.out (HB12.out.trans (hb.mono HB12.out.size))⟩
 have hq0:=(Below.refl w2.heap.size w2).drew
 clear z0 z1 z2 z3 hb2 HA
 go_upto_region 4 with fail
 go_region_held3 (fun W'=>Below w2.heap.size w2 W'/\W'.cell? ⟨w.heap.size,0,none⟩=some (.int .u8 k)/\W'.cell? ⟨w.heap.size,1,none⟩=some (.int .i64 n)/\W'.cell? ⟨w.heap.size,2,none⟩=some (.string sx)/\W'.cell? ⟨w.heap.size,3,none⟩=some (.slice a l c))
  (first | exact HSX.out _ (Below.refl _ _) | exact HSX.out _ hq0 | exact HSX.out _ hq1 | exact HSX.out _ hq2 | exact HSX.out _ hq3)
  (first
   | (go_at_call 98;refine (HN5.out _ (HB2.out.trans (hq0.mono HB2.out.size))).mono ?_;rintro e W1 ⟨hb,u5,y5,rfl,-⟩;have hq1:=hq0.trans (hb.mono hq0.size);clear hb HN5)
   | (go_at_call 98;refine (HN6.out _ (HB2.out.trans (hq1.mono HB2.out.size))).mono ?_;rintro e W2 ⟨hb,u6,y6,rfl,hu6,hl6,hm6⟩;have hq2:=hq1.trans (hb.mono hq1.size);have HU6:=hid hu6;have HM6:=hid (And.intro hl6 hm6);clear hb HN6 hu6 hl6 hm6)
   | (go_at_call 98;refine (HN7.out _ (HB2.out.trans (hq2.mono HB2.out.size))).mono ?_;rintro e W3 ⟨hb,u7,y7,rfl,hu7,hl7,hm7⟩;have hq3:=hq2.trans (hb.mono hq2.size);have HU7:=hid hu7;have HU6':=hid (HU6.out.keep hb);have HM7:=hid (And.intro hl7 hm7);clear hb HN7 hu7 hl7 hm7))
 have HBF:=hid (HB2.out.trans (hq3.mono HB2.out.size))
 clear hq0 hq1 hq2 hq3 HSX
 go_wp2_with fail
 refine ret_nm rfl rfl rfl rfl rfl ?_
 have h6:=HM6.out
 have h7:=HM7.out
 have l6:=HL6.out
 have l7:=HL7.out
 have hs:=HS.out
 simp only [List.length_nil,Nat.zero_add,List.not_mem_nil,false_or] at h6 h7
 exact ⟨HBF.out,u5,u6,u7,y6,y7,rfl,HU6'.out,HU7.out,by omega,by omega,h6.2,h7.2⟩
end Go.Proofs.YtfbbkmdhnkmonaaGreatDoor
