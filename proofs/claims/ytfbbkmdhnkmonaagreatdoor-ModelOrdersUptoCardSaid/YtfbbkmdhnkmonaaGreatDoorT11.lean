/- Proved, each under the conditions that it names: package model: row: are texts names, none twice; package model: rows: the names of attributes, of stages, of milestones; package model: staged: may a stage be; package model: built, walked. -/
import Derived.Test.YtfbbkmdhnkmonaaGreatDoorT10
set_option maxRecDepth 100000
set_option maxHeartbeats 32000000
namespace Go.Proofs.YtfbbkmdhnkmonaaGreatDoor
open Go.RowKit
def entsU (l:List ByteArray):Ents:=l.map fun s=>(s,Value.agg #[])
theorem entsU_keys (l:List ByteArray):(entsU l).map (·.1)=l:=by
 induction l with
 | nil=>rfl
 | cons x l ih=>show x :: (entsU l).map (·.1)=_;rw [ih]
theorem getM_yes {k:ByteArray}:∀ {l:List ByteArray},k∈l->getM (entsU l) k=some (Value.agg #[])
 | x :: l,h=>by
  show (if x=k then some (Value.agg #[]) else getM (entsU l) k)=_
  by_cases hx:x=k
  ·rw [if_pos hx]
  rw [if_neg hx]
  rcases List.mem_cons.1 h with h | h
  ·exact absurd h.symm hx
  exact getM_yes h
theorem getM_no {k:ByteArray}:∀ {l:List ByteArray},k∉l->getM (entsU l) k=none
 | [],_=>rfl
 | x :: l,h=>by
  show (if x=k then some (Value.agg #[]) else getM (entsU l) k)=_
  rw [if_neg (fun e=>h (by simp [e]))]
  exact getM_no (fun h'=>h (List.mem_cons_of_mem _ h'))
theorem zeroUnit (w:World):(zeroValue 147).run Tryz.prog w=.ok (.agg #[]) w:=by kernel_rfl
theorem nodup_take {l:List ByteArray} {m:Nat} (h:m<l.length) (hm:l[m]∈l.take m):¬l.Nodup:=by
 intro hn
 obtain ⟨j,hj,he⟩:=List.mem_iff_getElem.1 hm
 rw [List.getElem_take] at he
 have hjm:j<m:=by simp at hj;omega
 have:=(List.getElem_inj hn).1 he
 omega
theorem mrow_walk (v:Value) (l:List ByteArray) (w:World) (hl:l.length<=4000000) (hs:∀s∈l,s.size<=maxLen) (h:Strs w.heap.size w v l) (hv:GRng w) :
  Calls Tryz.prog 43 #[v] w (fun e w'=>e=.returned (.bool (rowB l))/\Below w.heap.size w w'):=by
 obtain ⟨a,c,b,o,rfl,hle,ha,hc⟩:=h.cells
 have HA:=hid ha
 have HC:=hid hc
 have HS:=hid hs
 have HN:=hid (fun s W (hb:Below w.heap.size w W)=>named_walk s W (hv.below hb))
 obtain ⟨q,hq⟩:∃q,rowB l=q:=⟨_,rfl⟩
 rw [hq]
 have HQ:=hid hq
 clear h ha hc hs hv hq hle
 have hmm:=@run_makeMap Tryz.prog
 go_enter Tryz.func43,Tryz.ntmps43
 go_wp2_with fail
 go_loopw [11] (fun i wr=>∃m:Nat,m<=l.length/\i=.int .i64 (m:Int)/\Hid (MapIs wr w.heap.size (entsU (l.take m)))/\Hid (Below w.heap.size w wr)/\Hid (w.heap.size<wr.heap.size)/\Hid (∀j (h:j<l.length),j<m->namedB l[j]=true)) (fun i _=>l.length-(intOf i).toNat)
 case atStart=>exact ⟨0,Nat.zero_le _,rfl,MapIs.made w,(Below.refl _ _).alloc (Nat.le_refl _) _,by show _<_;rw [size_alloc];omega,fun j _ h=>absurd h (Nat.not_lt_zero _)⟩
 obtain ⟨m,hml,rfl,HM,HB,HZ,HY⟩:=hrel
 by_cases hlt:m<l.length
 ·have i1:(m:Int)<(l.length:Int):=by omega
  have i2:(0:Int)<=(m:Int):=by omega
  have HML:=hid hlt
  obtain ⟨rfl,hbl⟩:=HA.out (by omega)
  have x0:wr.cell? ⟨b,o+m,none⟩=some (.string l[m]):=(HB.out.cell (p:=⟨b,o+m,none⟩) hbl).trans (HC.out m hlt)
  obtain ⟨s,hs⟩:∃s,l[m]=s:=⟨_,rfl⟩
  have hsz:s.size<=maxLen:=hs▸HS.out l[m] (List.getElem_mem hlt)
  rw [hs] at x0
  have HSM:=hid hs
  have hlk:=HM.out.lookup Tryz.underlying146 Tryz.underlying9 zeroUnit hsz
  have HSZ:=hid hsz
  clear hs hsz
  by_cases hin:s∈l.take m
  ·rw [getM_yes hin] at hlk
   simp only [Option.getD_some,Option.isSome_some] at hlk
   have HQ2:Hid (false=q):=by
    show _=_
    rw [<-HQ.out]
    have:=nodup_take HML.out (show l[m]∈_ from HSM.out.symm▸hin)
    simp [rowB,this]
   clear hin HN HM HY HQ
   go_wp2_with fail
   go_ret
   exact ⟨ret_bool HQ2.out,HB.out.alloc HB.out.size _⟩
  rw [getM_no hin] at hlk
  simp only [Option.getD_none,Option.isSome_none] at hlk
  have HIN:=hid hin
  clear hin
  go_wp2_with fail
  have hb3:=HB.out.alloc HB.out.size (.cells #[] 147)
  refine (HN.out s _ hb3).mono ?_
  rintro e w4 ⟨rfl,hb4⟩
  have hM3:=HM.out.alloc (.cells #[] 147)
  have hM4:=hM3.below hb4 hM3.lt
  have hb34:=hb3.trans (hb4.mono hb3.size)
  have HB4:=hid hb34
  have HZ4:Hid (w.heap.size<w4.heap.size):=by
   show _<_
   have h1:=HZ.out
   have h2:=hb4.size
   rw [size_alloc] at h2
   omega
  obtain ⟨r,hr⟩:∃r,namedB s=r:=⟨_,rfl⟩
  have HR:=hid hr
  rw [hr]
  clear hr hb3 hb4 hM3 hb34 HM HB HZ HN x0 hlk
  cases r with
  | false =>
   have HQ2:Hid (false=q):=by
    show _=_
    rw [<-HQ.out]
    have:l.all namedB=false:=List.all_eq_false.2 ⟨l[m]'HML.out,List.getElem_mem _,by rw [show l[m]'HML.out=s from HSM.out,HR.out];simp⟩
    simp [rowB,this]
   clear hM4 HQ
   go_wp2_with fail
   go_ret
   exact ⟨ret_bool HQ2.out,HB4.out⟩
  | true =>
   obtain ⟨w5,hu,hM5,hg5,hz5⟩:=hM4.update Tryz.underlying146 Tryz.underlying9 HSZ.out (.agg #[])
   have HM5:Hid (MapIs w5 w.heap.size (entsU (l.take (m+1)))):=by
    have e:putM (entsU (l.take m)) s (.agg #[])=entsU (l.take (m+1)):=by
     rw [putM_new (getM_no HIN.out),List.take_succ_eq_append_getElem HML.out,show l[m]'HML.out=s from HSM.out]
     simp [entsU]
    rw [<-e];exact hM5
   have HB5:=hid (HB4.out.grown hg5 HB4.out.size (fun j hj=>by cases hj;exact Nat.le_refl _))
   have HZ5:Hid (w.heap.size<w5.heap.size):=by show _<_;rw [hz5];exact HZ4.out
   have HY5:Hid (∀j (h:j<l.length),j<m+1->namedB l[j]=true):=fun j h hj=>by
    rcases Nat.lt_or_ge j m with h1 | h1
    ·exact HY.out j h h1
    obtain rfl:j=m:=by omega
    rw [show l[j]'h=s from HSM.out];exact HR.out
   have wr1:IntKind.i64.wrap ((m:Int)+1)=(m:Int)+1:=wrap_i64 (by omega) (by omega)
   clear hM4 hM5 hg5 hz5 HB4 HZ4 HY HR
   go_wp2_with fail
   refine ⟨⟨m+1,by have:=HML.out;omega,by go_num,HM5,HB5,HZ5,HY5⟩,by simp only [intOf];have:=HML.out;omega⟩
 obtain rfl:m=l.length:=by omega
 have i1:¬(l.length:Int)<(l.length:Int):=by omega
 have HQ2:Hid (true=q):=by
  show _=_
  rw [<-HQ.out]
  have h1:l.Nodup:=by
   have:=HM.out.nodup
   rw [List.take_length,entsU_keys] at this
   exact this
  have h2:l.all namedB=true:=List.all_eq_true.2 fun x hx=>by
   obtain ⟨j,hj,rfl⟩:=List.mem_iff_getElem.1 hx
   exact HY.out j hj hj
  simp [rowB,h1,h2]
 clear HM HY HN HQ
 go_wp2_with fail
 go_ret
 exact ⟨ret_bool HQ2.out,HB.out⟩
theorem attr_at {md:ModelD} {v:ModelV} {w:World} (h:ModelM false (From 0) w md v) {m:Nat} (hm:m<md.attrs.length):∃b off,v.a1=some ⟨b,off,none⟩/\b<w.heap.size /\
  w.cell? ⟨b,off+m*2,none⟩=some (.string md.attrs[m].name)/\w.cell? ⟨b,off+m*2+1,none⟩=some (.int .u8 md.attrs[m].kind):=by
 obtain ⟨_,_,b,off,hv,-,hC⟩:=flat_open h.attrs
 injection hv with e1 e2 e3
 subst e1 e3
 obtain ⟨ha,-,hbl⟩:=hC.at0 (by omega)
 exact ⟨b,off,ha,hbl,hC.cell m hm 0 _ rfl,hC.cell m hm 1 _ rfl⟩
theorem own_strs {w:World} {base:Nat} {va:Option Addr} {vc:Nat} {rs:List ByteArray} (h:Own w base 9 1 va vc rs.length (rs.map Value.string)):Strs w.heap.size w (.slice va rs.length vc) rs:=strD_strs (own_strD h)
theorem own_snoc {w:World} {base:Nat} {va:Option Addr} {vc:Nat} {rs:List ByteArray} (s:ByteArray) (h:Own w base 9 1 va vc rs.length (rs.map Value.string)) (hb:base<=w.heap.size) (hl:rs.length<=4000000) :
  ∃va' vc' w',(Builtin.append_ #[26,26] 26 #[.slice va rs.length vc,.slice (some ⟨w.heap.size,0,none⟩) 1 1]).run Tryz.prog (w.alloc (.cells #[.string s] 9))=.ok (.slice va' (rs.length+1) vc') w' /\
   Own w' base 9 1 va' vc' (rs++[s]).length ((rs++[s]).map Value.string)/\Below base w w':=by
 have hc:(w.alloc (.cells #[.string s] 9)).cell? ⟨w.heap.size,0,none⟩=some (.string s):=(Arr.new w [.string s] _).cell (j:=0) (by simp)
 have ho:=h.alloc (.cells #[.string s] 9)
 have hb4:Below base w (w.alloc (.cells #[.string s] 9)):=(Below.refl _ _).alloc hb _
 obtain ⟨va',vc',w',hap,ho5,hg5⟩:=Own.app elemStr 26 ho (by rw [size_alloc];omega) (some ⟨w.heap.size,0,none⟩) 1 1 w.heap.size 0 [.string s] rfl (fun _=>rfl) (fun j u hj=>by
  cases j with
  | zero=>simp at hj;subst hj;exact hc
  | succ j=>simp at hj) (fun u hu=>by rw [List.mem_singleton.1 hu];rfl) (by unfold maxLen;omega) (by omega)
 refine ⟨va',vc',w',hap,by simpa using ho5,hb4.grown hg5 (by rw [size_alloc];omega) (fun j hj=>?_)⟩
 rcases ho.block with ⟨h1,_⟩ | ⟨g,h1,h2,_⟩
 ·rw [h1] at hj;cases hj
 rw [h1] at hj;cases hj;exact h2
def RowsEnd (md:ModelD) (w:World) (e:Ending) (w':World):Prop:=Below w.heap.size w w'/\∃v1 v2 v3,e=.returned (.tuple #[v1,v2,v3])/\Strs w'.heap.size w' v1 (md.attrs.map AttrD.name)/\Strs w'.heap.size w' v2 (md.stages.map StageD.name)/\Strs w'.heap.size w' v3 (md.stones.map StoneD.name)
theorem strs_keep {w w':World} {v:Value} {xs:List ByteArray} (h:Strs w.heap.size w v xs) (hb:Below w.heap.size w w'):Strs w'.heap.size w' v xs:=(h.below hb).mono hb.size
theorem rows_walk (md:ModelD) (v:ModelV) (w:World) (hz:md.Sml) (hM:ModelM false (From 0) w md v):Calls Tryz.prog 42 #[.agg (v.cs md).toArray] w (RowsEnd md w):=by
 obtain ⟨a1,n1,a2,n2,a3,n3,a4,n4,a5,n5⟩:=v
 obtain ⟨w1,hw1⟩:∃w1,w.alloc (.cells (ModelV.cs ⟨a1,n1,a2,n2,a3,n3,a4,n4,a5,n5⟩ md).toArray 31)=w1:=⟨_,rfl⟩
 have hb1:Below w.heap.size w w1:=hw1▸(Below.refl _ _).alloc (Nat.le_refl _) _
 have hx1:Arr w1 w.heap.size 31 (ModelV.cs ⟨a1,n1,a2,n2,a3,n3,a4,n4,a5,n5⟩ md):=hw1▸Arr.new w (ModelV.cs ⟨a1,n1,a2,n2,a3,n3,a4,n4,a5,n5⟩ md) _
 have HM:=hid (fun W (hb:Below w1.heap.size w1 W)=>hM.grow (hb1.trans (hb.mono hb1.size)))
 have HX:=hid hx1
 have HB1:=hid hb1
 have HW1:=hid hw1
 have HZ:=hid hz
 obtain ⟨y0,y1,y2,y3,y4,y5⟩:=box6 hx1 (Below.refl _ _)
 dsimp only at y0 y1 y2 y3 y4 y5
 clear hM hb1 hx1 hw1 hz
 go_enter Tryz.func42,Tryz.ntmps42
 go_upto_region 1 with fail
 rw [HW1.out]
 go_wp2_with fail
 go_loopw [2,14] (fun l i wr=>∃m:Nat,m<=md.attrs.length/\i=.int .i64 (m:Int)/\∃va vc,l=.slice va m vc/\Hid (Own wr w1.heap.size 9 1 va vc ((md.attrs.take m).map AttrD.name).length (((md.attrs.take m).map AttrD.name).map Value.string))/\Hid (Below w1.heap.size w1 wr)) (fun _ i _=>md.attrs.length-(intOf i).toNat)
 case atStart=>exact ⟨0,Nat.zero_le _,rfl,none,0,rfl,(show Own _ _ _ _ _ _ _ _ from by simpa using Own.nil _ _ _ _),Below.refl _ _⟩
 obtain ⟨m,hml,rfl,va,vc,rfl,HO,HB⟩:=hrel
 have hb13:Below w1.heap.size w1 wr:=(Below.refl w1.heap.size w1).trans (HB.out.mono (Below.refl w1.heap.size w1).size)
 obtain ⟨y0,y1,y2,y3,y4,y5⟩:=box6 HX.out hb13
 dsimp only at y0 y1 y2 y3 y4 y5
 have hMr:=HM.out wr hb13
 by_cases hlt:m<md.attrs.length
 ·have i1:(m:Int)<(md.attrs.length:Int):=by omega
  have i2:(0:Int)<=(m:Int):=by omega
  have HML:=hid hlt
  obtain ⟨b,off,ha,hbl,c0,c1⟩:=attr_at hMr hlt
  have hzl:=HZ.out.attrs
  obtain rfl:a1=some ⟨b,off,none⟩:=ha
  have hlm:((md.attrs.take m).map AttrD.name).length=m:=by rw [List.length_map,List.length_take];omega
  have hO:=HO.out.alloc (.cells #[.string md.attrs[m].name,.int .u8 md.attrs[m].kind] 61)
  obtain ⟨va',vc',w5,hap,ho5,hb5⟩:=own_snoc md.attrs[m].name hO (by have:=HB.out.size;rw [size_alloc];omega) (by rw [hlm];omega)
  rw [hlm,size_alloc] at hap
  have e5:((md.attrs.take m).map AttrD.name)++[md.attrs[m].name]=(md.attrs.take (m+1)).map AttrD.name:=by rw [List.take_succ_eq_append_getElem HML.out,List.map_append];rfl
  rw [e5] at ho5
  have HO5:=hid ho5
  have HAP:=hid hap
  have HB5:=hid ((HB.out.alloc HB.out.size _).trans hb5)
  have wr1:IntKind.i64.wrap ((m:Int)+1)=(m:Int)+1:=wrap_i64 (by omega) (by omega)
  have hbw:b<wr.heap.size:=hbl
  clear hb13 hMr hlm hO hap e5 ho5 hb5 HO HB
  go_wp2_with (at_builtin;refine wpList_append_run (by rfl) (.tmp 18) (.tmp 21) 26 (by rfl) (by rfl) (by rfl) HAP.out ?_)
  refine ⟨⟨m+1,by have:=HML.out;omega,by go_num,va',vc',rfl,HO5,HB5⟩,by simp only [intOf];have:=HML.out;omega⟩
 obtain rfl:m=md.attrs.length:=by omega
 have i1:¬(md.attrs.length:Int)<(md.attrs.length:Int):=by omega
 have hown:=HO.out
 rw [List.take_length] at hown
 have hst:=own_strs hown
 rw [List.length_map] at hst
 have HT1:=hid hst
 have HBW1:=hid hb13
 have HBR1:=hid HB.out
 clear hb13 hMr hown hst HO HB
 rename World=>W1
 go_wp2_with fail
 go_loopw [3,27] (fun l i wr=>∃m:Nat,m<=md.stages.length/\i=.int .i64 (m:Int)/\∃va vc,l=.slice va m vc/\Hid (Own wr W1.heap.size 9 1 va vc ((md.stages.take m).map StageD.name).length (((md.stages.take m).map StageD.name).map Value.string))/\Hid (Below W1.heap.size W1 wr)) (fun _ i _=>md.stages.length-(intOf i).toNat)
 case atStart=>exact ⟨0,Nat.zero_le _,rfl,none,0,rfl,(show Own _ _ _ _ _ _ _ _ from by simpa using Own.nil _ _ _ _),Below.refl _ _⟩
 obtain ⟨m,hml,rfl,va,vc,rfl,HO,HB⟩:=hrel
 have hb13:Below w1.heap.size w1 wr:=HBW1.out.trans (HB.out.mono HBW1.out.size)
 obtain ⟨y0,y1,y2,y3,y4,y5⟩:=box6 HX.out hb13
 dsimp only at y0 y1 y2 y3 y4 y5
 have hMr:=HM.out wr hb13
 by_cases hlt:m<md.stages.length
 ·have i1:(m:Int)<(md.stages.length:Int):=by omega
  have i2:(0:Int)<=(m:Int):=by omega
  have HML:=hid hlt
  obtain ⟨b,off,ha,hbl,d1,e1,d2,e2,-,-,c0,c1,c2,c3,c4,c5,c6⟩:=stage_at hMr hlt
  have hzl:=HZ.out.stages
  obtain rfl:a3=some ⟨b,off,none⟩:=ha
  have hlm:((md.stages.take m).map StageD.name).length=m:=by rw [List.length_map,List.length_take];omega
  have hO:=HO.out.alloc (.cells #[.string md.stages[m].name,.int .i64 md.stages[m].inn,.slice d1 md.stages[m].opens.length e1,.slice d2 md.stages[m].closes.length e2,.string md.stages[m].role,.int .i64 md.stages[m].aft,.string md.stages[m].event] 38)
  obtain ⟨va',vc',w5,hap,ho5,hb5⟩:=own_snoc md.stages[m].name hO (by have:=HB.out.size;rw [size_alloc];omega) (by rw [hlm];omega)
  rw [hlm,size_alloc] at hap
  have e5:((md.stages.take m).map StageD.name)++[md.stages[m].name]=(md.stages.take (m+1)).map StageD.name:=by rw [List.take_succ_eq_append_getElem HML.out,List.map_append];rfl
  rw [e5] at ho5
  have HO5:=hid ho5
  have HAP:=hid hap
  have HB5:=hid ((HB.out.alloc HB.out.size _).trans hb5)
  have wr1:IntKind.i64.wrap ((m:Int)+1)=(m:Int)+1:=wrap_i64 (by omega) (by omega)
  have hbw:b<wr.heap.size:=hbl
  clear hb13 hMr hlm hO hap e5 ho5 hb5 HO HB
  go_wp2_with (at_builtin;refine wpList_append_run (by rfl) (.tmp 31) (.tmp 34) 26 (by rfl) (by rfl) (by rfl) HAP.out ?_)
  refine ⟨⟨m+1,by have:=HML.out;omega,by go_num,va',vc',rfl,HO5,HB5⟩,by simp only [intOf];have:=HML.out;omega⟩
 obtain rfl:m=md.stages.length:=by omega
 have i1:¬(md.stages.length:Int)<(md.stages.length:Int):=by omega
 have hown:=HO.out
 rw [List.take_length] at hown
 have hst:=own_strs hown
 rw [List.length_map] at hst
 have HT2:=hid hst
 have HBW2:=hid hb13
 have HBR2:=hid HB.out
 clear hb13 hMr hown hst HO HB
 rename World=>W2
 go_wp2_with fail
 go_loopw [4,40] (fun l i wr=>∃m:Nat,m<=md.stones.length/\i=.int .i64 (m:Int)/\∃va vc,l=.slice va m vc/\Hid (Own wr W2.heap.size 9 1 va vc ((md.stones.take m).map StoneD.name).length (((md.stones.take m).map StoneD.name).map Value.string))/\Hid (Below W2.heap.size W2 wr)) (fun _ i _=>md.stones.length-(intOf i).toNat)
 case atStart=>exact ⟨0,Nat.zero_le _,rfl,none,0,rfl,(show Own _ _ _ _ _ _ _ _ from by simpa using Own.nil _ _ _ _),Below.refl _ _⟩
 obtain ⟨m,hml,rfl,va,vc,rfl,HO,HB⟩:=hrel
 have hb13:Below w1.heap.size w1 wr:=HBW2.out.trans (HB.out.mono HBW2.out.size)
 obtain ⟨y0,y1,y2,y3,y4,y5⟩:=box6 HX.out hb13
 dsimp only at y0 y1 y2 y3 y4 y5
 have hMr:=HM.out wr hb13
 by_cases hlt:m<md.stones.length
 ·have i1:(m:Int)<(md.stones.length:Int):=by omega
  have i2:(0:Int)<=(m:Int):=by omega
  have HML:=hid hlt
  obtain ⟨b,off,ha,hbl,d1,e1,d2,e2,-,-,c0,c1,c2⟩:=stone_at hMr hlt
  have hzl:=HZ.out.stones
  obtain rfl:a4=some ⟨b,off,none⟩:=ha
  have hlm:((md.stones.take m).map StoneD.name).length=m:=by rw [List.length_map,List.length_take];omega
  have hO:=HO.out.alloc (.cells #[.string md.stones[m].name,.slice d1 md.stones[m].done.length e1,.slice d2 md.stones[m].undo.length e2] 58)
  obtain ⟨va',vc',w5,hap,ho5,hb5⟩:=own_snoc md.stones[m].name hO (by have:=HB.out.size;rw [size_alloc];omega) (by rw [hlm];omega)
  rw [hlm,size_alloc] at hap
  have e5:((md.stones.take m).map StoneD.name)++[md.stones[m].name]=(md.stones.take (m+1)).map StoneD.name:=by rw [List.take_succ_eq_append_getElem HML.out,List.map_append];rfl
  rw [e5] at ho5
  have HO5:=hid ho5
  have HAP:=hid hap
  have HB5:=hid ((HB.out.alloc HB.out.size _).trans hb5)
  have wr1:IntKind.i64.wrap ((m:Int)+1)=(m:Int)+1:=wrap_i64 (by omega) (by omega)
  have hbw:b<wr.heap.size:=hbl
  clear hb13 hMr hlm hO hap e5 ho5 hb5 HO HB
  go_wp2_with (at_builtin;refine wpList_append_run (by rfl) (.tmp 44) (.tmp 47) 26 (by rfl) (by rfl) (by rfl) HAP.out ?_)
  refine ⟨⟨m+1,by have:=HML.out;omega,by go_num,va',vc',rfl,HO5,HB5⟩,by simp only [intOf];have:=HML.out;omega⟩
 obtain rfl:m=md.stones.length:=by omega
 have i1:¬(md.stones.length:Int)<(md.stones.length:Int):=by omega
 have hown:=HO.out
 rw [List.take_length] at hown
 have hst:=own_strs hown
 rw [List.length_map] at hst
 have HT3:=hid hst
 have HBW3:=hid hb13
 have HBR3:=hid HB.out
 clear hb13 hMr hown hst HO HB
 rename World=>W3
 go_wp2_with fail
 go_ret3
 have k2:=strs_keep HT1.out HBR2.out
 have k3:=strs_keep k2 HBR3.out
 have k4:=strs_keep HT2.out HBR3.out
 exact ⟨HB1.out.trans (HBW3.out.mono HB1.out.size),_,_,_,rfl,k3,k4,HT3.out⟩
theorem staged_walk (md:ModelD) (v:ModelV) (n:Nat) (hn:n<md.stages.length) (w:World) (hz:md.Sml) (hM:ModelM false (From 0) w md v) (hv:GRng w) :
  Calls Tryz.prog 47 #[.agg (v.cs md).toArray,.int .i64 (n:Int)] w (fun e w'=>e=.returned (.bool (stagedB md n md.stages[n]))/\Below w.heap.size w w'):=by
 obtain ⟨w1,hw1⟩:∃w1,w.alloc (.cells (v.cs md).toArray 31)=w1:=⟨_,rfl⟩
 have hb1:Below w.heap.size w w1:=hw1▸(Below.refl _ _).alloc (Nat.le_refl _) _
 have hx1:Arr w1 w.heap.size 31 (v.cs md):=hw1▸Arr.new w (v.cs md) _
 have HZW:Hid (w1.heap.size=w.heap.size+1):=by show _=_;rw [<-hw1,size_alloc]
 have HW1:=hid hw1
 have HB1:=hid hb1
 have HX:=hid hx1
 have i1:(n:Int)<(md.stages.length:Int):=by omega
 have i2:(0:Int)<=(n:Int):=by omega
 obtain ⟨b,off,ha,hbl,d1,e1,d2,e2,-,-,c0,c1,c2,c3,c4,c5,c6⟩:=stage_at (hM.grow hb1) hn
 obtain ⟨y0,y1,y2,y3,y4,y5⟩:=box6 hx1 (Below.refl _ _)
 rw [ha] at y3
 have HC:=hid (fun s W (hb:Below w.heap.size w W)=>inStrs W.heap.size _ md.events s W (by have:=hz.events;omega) (strD_strs (hM.grow hb).events))
 have HN:=hid (fun s W (hb:Below w.heap.size w W)=>named_walk s W (hv.below hb))
 obtain ⟨q,hq⟩:∃q,stagedB md n md.stages[n]=q:=⟨_,rfl⟩
 rw [hq]
 unfold stagedB at hq
 obtain ⟨⟨nm,inn,ops,cls,role,aft,ev⟩,hst⟩:∃s,md.stages[n]=s:=⟨_,rfl⟩
 rw [hst] at hq c0 c1 c2 c3 c4 c5 c6
 dsimp only at hq c0 c1 c2 c3 c4 c5 c6
 have HQ:=hid hq
 clear hq hst hM hv hz hb1 hx1 hw1 ha
 obtain ⟨w2,hw2⟩:∃w2,w1.alloc (.cells #[.string nm,.int .i64 inn,.slice d1 ops.length e1,.slice d2 cls.length e2,.string role,.int .i64 aft,.string ev] 38)=w2:=⟨_,rfl⟩
 have hb2:Below w1.heap.size w1 w2:=hw2▸(Below.refl _ _).alloc (Nat.le_refl _) _
 have hx2:=(show Arr w2 w1.heap.size 38 [.string nm,.int .i64 inn,.slice d1 ops.length e1,.slice d2 cls.length e2,.string role,.int .i64 aft,.string ev] from hw2▸Arr.new w1 _ _)
 have box7:∀W,Below w2.heap.size w2 W->W.cell? ⟨w1.heap.size,1,none⟩=some (.int .i64 inn)/\W.cell? ⟨w1.heap.size,4,none⟩=some (.string role)/\W.cell? ⟨w1.heap.size,5,none⟩=some (.int .i64 aft)/\W.cell? ⟨w1.heap.size,6,none⟩=some (.string ev):=fun W hb =>
  ⟨cellBelow2 hb (hx2.cell (j:=1) (by simp)),cellBelow2 hb (hx2.cell (j:=4) (by simp)),cellBelow2 hb (hx2.cell (j:=5) (by simp)),cellBelow2 hb (hx2.cell (j:=6) (by simp))⟩
 have HB12:=hid hb2
 have HB2:=hid (HB1.out.trans (hb2.mono HB1.out.size))
 have HBX:=hid box7
 have HW2:=hid hw2
 clear hx2 box7 hb2 hw2
 go_enter Tryz.func47,Tryz.ntmps47
 go_upto_region 1 with fail
 rw [HW1.out]
 go_upto_region 2 with fail
 rw [HW2.out]
 clear y0 y1 y2 y3 y4 y5 c0 c1 c2 c3 c4 c5 c6
 obtain ⟨y0,y1,y2,y3,y4,y5⟩:=box6 HX.out HB12.out
 obtain ⟨z1,z4,z5,z6⟩:=HBX.out w2 (Below.refl _ _)
 by_cases h1:inn < -1
 ·have HQ2:Hid (false=q):=by show _=_;rw [<-HQ.out,if_pos (.inl h1)]
  go_wp2_with fail
  go_ret
  exact ⟨ret_bool HQ2.out,HB2.out⟩
 by_cases h2:(n:Int)<=inn
 ·have HQ2:Hid (false=q):=by show _=_;rw [<-HQ.out,if_pos (.inr (.inl h2))]
  go_wp2_with fail
  go_ret
  exact ⟨ret_bool HQ2.out,HB2.out⟩
 rcases nz_list (s:=role) with ⟨h3,h4⟩ | ⟨h3,h4⟩
 ·have e4:(role.toList != [])=false:=by rw [bne,h4];rfl
  by_cases h5:aft<0
  ·have HQ2:Hid (false=q):=by show _=_;rw [<-HQ.out,if_pos (.inr (.inr (.inr (.inl h5))))]
   go_wp2_with fail
   go_ret
   exact ⟨ret_bool HQ2.out,HB2.out⟩
  have h5_0:=h5
  clear h5
  by_cases h5:1099511627776<aft
  ·have HQ2:Hid (false=q):=by show _=_;rw [<-HQ.out,if_pos (.inr (.inr (.inr (.inr h5))))]
   go_wp2_with fail
   go_ret
   exact ⟨ret_bool HQ2.out,HB2.out⟩
  have h5_1:=h5
  clear h5
  have hall:¬(inn < -1\/(n:Int)<=inn\/(role.size≠0/\namedB role=false)\/aft<0\/1099511627776<aft):=by
   rintro (h | h | ⟨h,h'⟩ | h | h)
   ·exact h1 h
   ·exact h2 h
   ·exact h (size_zero.2 h3)
   ·exact h5_0 h
   exact h5_1 h
  by_cases h6:aft=0
  ·subst h6
   have HQ2:Hid (ev.toList.isEmpty=q):=by show _=_;rw [<-HQ.out,if_neg hall,if_pos rfl,nz_emp]
   clear hall
   go_wp2_with fail
   go_ret
   exact ⟨ret_bool HQ2.out,HB2.out⟩
  have HQ2:Hid (hasB md.events ev=q):=by show _=_;rw [<-HQ.out,if_neg hall,if_neg h6]
  have e6:(aft==0)=false:=by simpa using h6
  clear hall h6
  go_wp2_with fail
  refine (HC.out ev _ HB2.out).mono ?_
  rintro e w5 ⟨rfl,rfl⟩
  go_wp2_with fail
  go_ret
  exact ⟨ret_bool HQ2.out,HB2.out⟩
 have e4:(role.toList != [])=true:=by rw [bne,h4];rfl
 have hr0:role.size≠0:=fun h=>h3 (size_zero.1 h)
 obtain ⟨r,hr⟩:∃r,namedB role=r:=⟨_,rfl⟩
 have HN2:=hid (HN.out role w2 HB2.out)
 rw [hr] at HN2
 have HNR:=hid hr
 clear hr HN
 have hcall:∀(R:Ending->World->Prop),(∀w4,Below w2.heap.size w2 w4->R (.returned (.bool r)) w4)->Calls Tryz.prog 19 #[.string role] w2 R:=fun R hR=>HN2.out.mono (fun e w4 ⟨he,hb⟩=>he▸hR w4 hb)
 have HCALL:=hid hcall
 clear hcall HN2
 cases r with
 | false =>
  have HQ2:Hid (false=q):=by show _=_;rw [<-HQ.out,if_pos (.inr (.inr (.inl ⟨hr0,HNR.out⟩)))]
  go_wp2_with fail
  refine HCALL.out _ fun w4 hb4=>?_
  have HB4:=hid (HB2.out.trans (hb4.mono HB2.out.size))
  clear hb4
  go_wp2_with fail
  go_ret
  exact ⟨ret_bool HQ2.out,HB4.out⟩
 | true =>
  by_cases h5:aft<0
  ·have HQ2:Hid (false=q):=by show _=_;rw [<-HQ.out,if_pos (.inr (.inr (.inr (.inl h5))))]
   go_wp2_with fail
   refine HCALL.out _ fun w4 hb4=>?_
   have HB4:=hid (HB2.out.trans (hb4.mono HB2.out.size))
   clear z1 z4 z5 z6 y0 y1 y2 y3 y4 y5
   obtain ⟨z1,z4,z5,z6⟩:=HBX.out w4 hb4
   obtain ⟨y0,y1,y2,y3,y4,y5⟩:=box6 HX.out (HB12.out.trans (hb4.mono HB12.out.size))
   clear hb4
   go_wp2_with fail
   go_ret
   exact ⟨ret_bool HQ2.out,HB4.out⟩
  have h5_0:=h5
  clear h5
  by_cases h5:1099511627776<aft
  ·have HQ2:Hid (false=q):=by show _=_;rw [<-HQ.out,if_pos (.inr (.inr (.inr (.inr h5))))]
   go_wp2_with fail
   refine HCALL.out _ fun w4 hb4=>?_
   have HB4:=hid (HB2.out.trans (hb4.mono HB2.out.size))
   clear z1 z4 z5 z6 y0 y1 y2 y3 y4 y5
   obtain ⟨z1,z4,z5,z6⟩:=HBX.out w4 hb4
   obtain ⟨y0,y1,y2,y3,y4,y5⟩:=box6 HX.out (HB12.out.trans (hb4.mono HB12.out.size))
   clear hb4
   go_wp2_with fail
   go_ret
   exact ⟨ret_bool HQ2.out,HB4.out⟩
  have h5_1:=h5
  clear h5
  have hall:¬(inn < -1\/(n:Int)<=inn\/(role.size≠0/\namedB role=false)\/aft<0\/1099511627776<aft):=by
   rintro (h | h | ⟨h,h'⟩ | h | h)
   ·exact h1 h
   ·exact h2 h
   ·rw [HNR.out] at h';cases h'
   ·exact h5_0 h
   exact h5_1 h
  by_cases h6:aft=0
  ·subst h6
   have HQ2:Hid (ev.toList.isEmpty=q):=by show _=_;rw [<-HQ.out,if_neg hall,if_pos rfl,nz_emp]
   clear hall
   go_wp2_with fail
   refine HCALL.out _ fun w4 hb4=>?_
   have HB4:=hid (HB2.out.trans (hb4.mono HB2.out.size))
   clear z1 z4 z5 z6 y0 y1 y2 y3 y4 y5
   obtain ⟨z1,z4,z5,z6⟩:=HBX.out w4 hb4
   obtain ⟨y0,y1,y2,y3,y4,y5⟩:=box6 HX.out (HB12.out.trans (hb4.mono HB12.out.size))
   clear hb4
   go_wp2_with fail
   go_ret
   exact ⟨ret_bool HQ2.out,HB4.out⟩
  have HQ2:Hid (hasB md.events ev=q):=by show _=_;rw [<-HQ.out,if_neg hall,if_neg h6]
  have e6:(aft==0)=false:=by simpa using h6
  clear hall h6
  go_wp2_with fail
  refine HCALL.out _ fun w4 hb4=>?_
  have HB4:=hid (HB2.out.trans (hb4.mono HB2.out.size))
  clear z1 z4 z5 z6 y0 y1 y2 y3 y4 y5
  obtain ⟨z1,z4,z5,z6⟩:=HBX.out w4 hb4
  obtain ⟨y0,y1,y2,y3,y4,y5⟩:=box6 HX.out (HB12.out.trans (hb4.mono HB12.out.size))
  clear hb4
  go_wp2_with fail
  refine (HC.out ev _ HB4.out).mono ?_
  rintro e w5 ⟨rfl,rfl⟩
  go_wp2_with fail
  go_ret
  exact ⟨ret_bool HQ2.out,HB4.out⟩
theorem ixOf_any {α:Type} (p:α->Bool) (l:List α):decide (0<=ixOf p l)=l.any p:=by
 unfold ixOf
 rw [Bool.eq_iff_iff,decide_eq_true_eq]
 split
 ·rename_i i h
  obtain ⟨h1,h2,-⟩:=List.findIdx?_eq_some_iff_getElem.1 h
  exact ⟨fun _=>List.any_eq_true.2 ⟨l[i],List.getElem_mem h1,h2⟩,fun _=>by omega⟩
 rename_i h
 have h:=List.findIdx?_eq_none_iff.1 h
 constructor
 ·intro h0;omega
 intro h0
 obtain ⟨x,hx,hp⟩:=List.any_eq_true.1 h0
 rw [h x hx] at hp;cases hp
instance:Inhabited Pl:=⟨(0,0,0)⟩
instance:Inhabited (ByteArray×ByteArray):=⟨(⟨#[]⟩,⟨#[]⟩)⟩
theorem ixAttrG (p:AttrD->Bool) (f:FuncId) (lb:Array Value) (eg:∀args w,(callFunc f args).run Tryz.prog w=.ok (.enter f args) w) (l:List AttrD) (a:Option Addr) (c:Nat) (w:World) (hl:l.length<=1048576) {o:Bool} {P:Nat->Prop} (h:Mem o P w (flatL 2 AttrD.cs l) (.slice a l.length c))
  (hp:PredBelow Tryz.prog f lb (fun x=>.agg (AttrD.cs x).toArray) p w) :
  Calls Tryz.prog 87 #[.slice a l.length c,.func (.func f) #[] lb] w fun e w'=>e=.returned (.int .i64 (ixOf p l))/\Below w.heap.size w w':=by
 obtain ⟨_,_,b,off,hv,-,hC⟩:=flat_open h
 injection hv with e1 e2 e3
 subst e1 e3
 by_cases h0:l.length=0
 ·have hnil:l=[]:=List.eq_nil_of_length_eq_zero h0
  subst hnil
  clear h hC hp
  go_enter Tryz.func87,Tryz.ntmps87
  go_wp2_with fail
  go_loopw [8] (fun i wr=>i=.int .i64 0/\wr=w) (fun _ _=>0)
  case atStart=>exact ⟨rfl,rfl⟩
  obtain ⟨rfl,rfl⟩:=hrel
  go_wp2_with fail
  go_ret
  exact ⟨rfl,Below.refl _ _⟩
 obtain ⟨rfl,-,hbl⟩:=hC.at0 (by omega)
 have hcon:=AnyQ.slices_IndexFunc Tryz.ixAttr 2 Tryz.isAgg61 Tryz.sizeOf61 AttrD.cs (fun _=>rfl) p f lb eg b off l.length c l w
  hp (by omega) (by omega) hbl (fun j hj i v hi=>hC.cell j hj i v (by rw [getElem!_pos l j hj] at hi;exact hi))
 have hix:Lib.idxBy (fun _ (y:AttrD)=>p y) (l.take l.length) default=ixOf p l:=by
  rw [List.take_length]
  exact idx_ix p p default l l rfl fun j h1 h2=>rfl
 rw [hix] at hcon
 exact hcon
theorem hasAttrG (p:AttrD->Bool) (f:FuncId) (lb:Array Value) (eg:∀args w,(callFunc f args).run Tryz.prog w=.ok (.enter f args) w) (l:List AttrD) (a:Option Addr) (c:Nat) (w:World) (hl:l.length<=1048576) {o:Bool} {P:Nat->Prop} (h:Mem o P w (flatL 2 AttrD.cs l) (.slice a l.length c))
  (hp:PredBelow Tryz.prog f lb (fun x=>.agg (AttrD.cs x).toArray) p w) :
  Calls Tryz.prog 45 #[.slice a l.length c,.func (.func f) #[] lb] w fun e w'=>e=.returned (.bool (l.any p))/\Below w.heap.size w w':=by
 have HI:=hid (ixAttrG p f lb eg l a c w hl h hp)
 rw [<-ixOf_any]
 obtain ⟨r,hr⟩:∃r,ixOf p l=r:=⟨_,rfl⟩
 rw [hr] at HI ⊢
 clear h hp hr eg
 go_enter Tryz.func45,Tryz.ntmps45
 go_wp2_with fail
 refine HI.out.mono ?_
 rintro e w2 ⟨rfl,hb2⟩
 have HB2:=hid hb2
 clear hb2 HI
 go_wp2_with fail
 go_ret
 exact ⟨rfl,HB2.out⟩
theorem ixPairG (p:(ByteArray×ByteArray)->Bool) (f:FuncId) (lb:Array Value) (eg:∀args w,(callFunc f args).run Tryz.prog w=.ok (.enter f args) w) (l:List (ByteArray×ByteArray)) (a:Option Addr) (c:Nat) (w:World) (hl:l.length<=1048576) {o:Bool} {P:Nat->Prop} (h:Mem o P w (flatL 2 pairC l) (.slice a l.length c))
  (hp:PredBelow Tryz.prog f lb (fun x=>.agg (pairC x).toArray) p w) :
  Calls Tryz.prog 91 #[.slice a l.length c,.func (.func f) #[] lb] w fun e w'=>e=.returned (.int .i64 (ixOf p l))/\Below w.heap.size w w':=by
 obtain ⟨_,_,b,off,hv,-,hC⟩:=flat_open h
 injection hv with e1 e2 e3
 subst e1 e3
 by_cases h0:l.length=0
 ·have hnil:l=[]:=List.eq_nil_of_length_eq_zero h0
  subst hnil
  clear h hC hp
  go_enter Tryz.func91,Tryz.ntmps91
  go_wp2_with fail
  go_loopw [8] (fun i wr=>i=.int .i64 0/\wr=w) (fun _ _=>0)
  case atStart=>exact ⟨rfl,rfl⟩
  obtain ⟨rfl,rfl⟩:=hrel
  go_wp2_with fail
  go_ret
  exact ⟨rfl,Below.refl _ _⟩
 obtain ⟨rfl,-,hbl⟩:=hC.at0 (by omega)
 have hcon:=AnyQ.slices_IndexFunc Tryz.ixPair 2 Tryz.isAgg95 Tryz.sizeOf95 pairC (fun _=>rfl) p f lb eg b off l.length c l w
  hp (by omega) (by omega) hbl (fun j hj i v hi=>hC.cell j hj i v (by rw [getElem!_pos l j hj] at hi;exact hi))
 have hix:Lib.idxBy (fun _ (y:(ByteArray×ByteArray))=>p y) (l.take l.length) default=ixOf p l:=by
  rw [List.take_length]
  exact idx_ix p p default l l rfl fun j h1 h2=>rfl
 rw [hix] at hcon
 exact hcon
theorem hasPairG (p:(ByteArray×ByteArray)->Bool) (f:FuncId) (lb:Array Value) (eg:∀args w,(callFunc f args).run Tryz.prog w=.ok (.enter f args) w) (l:List (ByteArray×ByteArray)) (a:Option Addr) (c:Nat) (w:World) (hl:l.length<=1048576) {o:Bool} {P:Nat->Prop} (h:Mem o P w (flatL 2 pairC l) (.slice a l.length c))
  (hp:PredBelow Tryz.prog f lb (fun x=>.agg (pairC x).toArray) p w) :
  Calls Tryz.prog 49 #[.slice a l.length c,.func (.func f) #[] lb] w fun e w'=>e=.returned (.bool (l.any p))/\Below w.heap.size w w':=by
 have HI:=hid (ixPairG p f lb eg l a c w hl h hp)
 rw [<-ixOf_any]
 obtain ⟨r,hr⟩:∃r,ixOf p l=r:=⟨_,rfl⟩
 rw [hr] at HI ⊢
 clear h hp hr eg
 go_enter Tryz.func49,Tryz.ntmps49
 go_wp2_with fail
 refine HI.out.mono ?_
 rintro e w2 ⟨rfl,hb2⟩
 have HB2:=hid hb2
 clear hb2 HI
 go_wp2_with fail
 go_ret
 exact ⟨rfl,HB2.out⟩
theorem ixPlG (p:Pl->Bool) (f:FuncId) (lb:Array Value) (eg:∀args w,(callFunc f args).run Tryz.prog w=.ok (.enter f args) w) (l:List Pl) (a:Option Addr) (c:Nat) (w:World) (hl:l.length<=1048576) {o:Bool} {P:Nat->Prop} (h:Mem o P w (flatL 3 plC l) (.slice a l.length c))
  (hp:PredBelow Tryz.prog f lb (fun x=>.agg (plC x).toArray) p w) :
  Calls Tryz.prog 52 #[.slice a l.length c,.func (.func f) #[] lb] w fun e w'=>e=.returned (.int .i64 (ixOf p l))/\Below w.heap.size w w':=by
 obtain ⟨_,_,b,off,hv,-,hC⟩:=flat_open h
 injection hv with e1 e2 e3
 subst e1 e3
 by_cases h0:l.length=0
 ·have hnil:l=[]:=List.eq_nil_of_length_eq_zero h0
  subst hnil
  clear h hC hp
  go_enter Tryz.func52,Tryz.ntmps52
  go_wp2_with fail
  go_loopw [8] (fun i wr=>i=.int .i64 0/\wr=w) (fun _ _=>0)
  case atStart=>exact ⟨rfl,rfl⟩
  obtain ⟨rfl,rfl⟩:=hrel
  go_wp2_with fail
  go_ret
  exact ⟨rfl,Below.refl _ _⟩
 obtain ⟨rfl,-,hbl⟩:=hC.at0 (by omega)
 have hcon:=AnyQ.slices_IndexFunc Tryz.ixPl 3 Tryz.isAgg33 Tryz.sizeOf33 plC (fun _=>rfl) p f lb eg b off l.length c l w
  hp (by omega) (by omega) hbl (fun j hj i v hi=>hC.cell j hj i v (by rw [getElem!_pos l j hj] at hi;exact hi))
 have hix:Lib.idxBy (fun _ (y:Pl)=>p y) (l.take l.length) default=ixOf p l:=by
  rw [List.take_length]
  exact idx_ix p p default l l rfl fun j h1 h2=>rfl
 rw [hix] at hcon
 exact hcon
theorem hasPlG (p:Pl->Bool) (f:FuncId) (lb:Array Value) (eg:∀args w,(callFunc f args).run Tryz.prog w=.ok (.enter f args) w) (l:List Pl) (a:Option Addr) (c:Nat) (w:World) (hl:l.length<=1048576) {o:Bool} {P:Nat->Prop} (h:Mem o P w (flatL 3 plC l) (.slice a l.length c))
  (hp:PredBelow Tryz.prog f lb (fun x=>.agg (plC x).toArray) p w) :
  Calls Tryz.prog 54 #[.slice a l.length c,.func (.func f) #[] lb] w fun e w'=>e=.returned (.bool (l.any p))/\Below w.heap.size w w':=by
 have HI:=hid (ixPlG p f lb eg l a c w hl h hp)
 rw [<-ixOf_any]
 obtain ⟨r,hr⟩:∃r,ixOf p l=r:=⟨_,rfl⟩
 rw [hr] at HI ⊢
 clear h hp hr eg
 go_enter Tryz.func54,Tryz.ntmps54
 go_wp2_with fail
 refine HI.out.mono ?_
 rintro e w2 ⟨rfl,hb2⟩
 have HB2:=hid hb2
 clear hb2 HI
 go_wp2_with fail
 go_ret
 exact ⟨rfl,HB2.out⟩
def badAttr (a:AttrD):Bool:=decide (a.kind<1\/3<a.kind)
noncomputable def badPair (p:ByteArray×ByteArray):Bool:=!namedB p.1||!namedB p.2||p.1.toList==p.2.toList
theorem badAttrCl (w:World):PredBelow Tryz.prog 46 #[] (fun x=>.agg (AttrD.cs x).toArray) badAttr w:=fun W x hb=>by
 obtain ⟨nm,k⟩:=x
 show Calls Tryz.prog 46 #[.agg #[.string nm,.int .u8 k]] W _
 by_cases h1:k<1
 ·have HQ:Hid (true=badAttr ⟨nm,k⟩):=by show _=_;simp [badAttr,h1]
  go_enter Tryz.func46,Tryz.ntmps46
  go_wp2_with fail
  go_ret
  exact ⟨ret_bool HQ.out,hb.alloc hb.size _⟩
 by_cases h2:3<k
 ·have HQ:Hid (true=badAttr ⟨nm,k⟩):=by show _=_;simp [badAttr,h2]
  go_enter Tryz.func46,Tryz.ntmps46
  go_wp2_with fail
  go_ret
  exact ⟨ret_bool HQ.out,hb.alloc hb.size _⟩
 have HQ:Hid (false=badAttr ⟨nm,k⟩):=by show _=_;simp [badAttr,h1,h2]
 go_enter Tryz.func46,Tryz.ntmps46
 go_wp2_with fail
 go_ret
 exact ⟨ret_bool HQ.out,hb.alloc hb.size _⟩
theorem badPairCl (w:World) (hv:GRng w):PredBelow Tryz.prog 50 #[] (fun x=>.agg (pairC x).toArray) badPair w:=fun W x hb=>by
 obtain ⟨s,t⟩:=x
 show Calls Tryz.prog 50 #[.agg #[.string s,.string t]] W _
 obtain ⟨W1,hW1⟩:∃W1,W.alloc (.cells #[.string s,.string t] 95)=W1:=⟨_,rfl⟩
 have hb1:Below W.heap.size W W1:=hW1▸(Below.refl _ _).alloc (Nat.le_refl _) _
 have hx:=(show Arr W1 W.heap.size 95 [.string s,.string t] from hW1▸Arr.new W _ _)
 have box2:∀V,Below W1.heap.size W1 V->V.cell? ⟨W.heap.size,0,none⟩=some (.string s)/\V.cell? ⟨W.heap.size,1,none⟩=some (.string t):=fun V h=>⟨cellBelow2 h (hx.cell (j:=0) (by simp)),cellBelow2 h (hx.cell (j:=1) (by simp))⟩
 have hbw:=hb.trans (hb1.mono hb.size)
 have HN:=hid (fun u V (h:Below W1.heap.size W1 V)=>named_walk u V (hv.below (hbw.trans (h.mono hbw.size))))
 have HBX:=hid box2
 have HB1:=hid hbw
 have HW1:=hid hW1
 obtain ⟨z0,z1⟩:=box2 W1 (Below.refl _ _)
 obtain ⟨q,hq⟩:∃q,badPair (s,t)=q:=⟨_,rfl⟩
 rw [hq]
 obtain ⟨n1,hn1⟩:∃n,namedB s=n:=⟨_,rfl⟩
 obtain ⟨n2,hn2⟩:∃n,namedB t=n:=⟨_,rfl⟩
 have HQ:Hid ((!n1||!n2||s.toList==t.toList)=q):=by show _=_;rw [<-hq,<-hn1,<-hn2];rfl
 have HN1:=hid (HN.out s W1 (Below.refl _ _))
 have HN2:=hid (fun V h=>HN.out t V h)
 rw [hn1] at HN1
 simp only [hn2] at HN2
 clear hq hn1 hn2 hv hb hb1 hx box2 hbw HN hW1
 go_enter Tryz.func50,Tryz.ntmps50
 go_upto_region 1 with fail
 rw [HW1.out]
 cases n1 with
 | false =>
  go_wp2_with fail
  refine HN1.out.mono ?_
  rintro e V2 ⟨rfl,hb2⟩
  have HB2:=hid (HB1.out.trans (hb2.mono HB1.out.size))
  clear hb2 HN1
  go_wp2_with fail
  go_ret
  exact ⟨ret_bool HQ.out,HB2.out⟩
 | true =>
  go_wp2_with fail
  refine HN1.out.mono ?_
  rintro e V2 ⟨rfl,hb2⟩
  have HB12:=hid hb2
  have HB2:=hid (HB1.out.trans (hb2.mono HB1.out.size))
  clear z0 z1
  obtain ⟨z0,z1⟩:=HBX.out V2 hb2
  clear hb2 HN1
  cases n2 with
  | false =>
   go_wp2_with fail
   refine (HN2.out V2 HB12.out).mono ?_
   rintro e V3 ⟨rfl,hb3⟩
   have HB3:=hid (HB2.out.trans (hb3.mono HB2.out.size))
   clear hb3 HN2
   go_wp2_with fail
   go_ret
   exact ⟨ret_bool HQ.out,HB3.out⟩
  | true =>
   go_wp2_with fail
   refine (HN2.out V2 HB12.out).mono ?_
   rintro e V3 ⟨rfl,hb3⟩
   have HB3:=hid (HB2.out.trans (hb3.mono HB2.out.size))
   clear z0 z1
   obtain ⟨z0,z1⟩:=HBX.out V3 (HB12.out.trans (hb3.mono HB12.out.size))
   clear hb3 HN2
   go_wp2_with fail
   go_ret
   exact ⟨ret_bool HQ.out,HB3.out⟩
theorem senAt_in {md:ModelD} {p:Pl} {s:SentryD} (h:senAt md p=some s):(∃x∈md.stages,s∈x.opens\/s∈x.closes)\/∃x∈md.stones,s∈x.done\/s∈x.undo:=by
 unfold senAt at h
 split at h
 ·cases h
 have hm:=List.mem_of_getElem? h
 unfold senL at hm
 have key:∀ {α:Type} (l:List α) (f:α->List SentryD),s∈((l[p.2.1.toNat]?.map f).getD [])->∃x∈l,s∈f x:=by
  intro α l f h
  cases hl:l[p.2.1.toNat]? with
  | none=>rw [hl] at h;simp at h
  | some x=>rw [hl] at h;exact ⟨x,List.mem_of_getElem? hl,by simpa using h⟩
 split at hm
 ·cases hm
 split at hm
 ·obtain ⟨x,h1,h2⟩:=key _ _ hm;exact .inl ⟨x,h1,.inl h2⟩
 split at hm
 ·obtain ⟨x,h1,h2⟩:=key _ _ hm;exact .inl ⟨x,h1,.inr h2⟩
 split at hm
 ·obtain ⟨x,h1,h2⟩:=key _ _ hm;exact .inr ⟨x,h1,.inl h2⟩
 split at hm
 ·obtain ⟨x,h1,h2⟩:=key _ _ hm;exact .inr ⟨x,h1,.inr h2⟩
 cases hm
theorem in_senAt {md:ModelD} {s:SentryD} (h:(∃x∈md.stages,s∈x.opens\/s∈x.closes)\/∃x∈md.stones,s∈x.done\/s∈x.undo):∃p,senAt md p=some s:=by
 have key:∀(k:Int) (n:Nat) (l:List SentryD),senL md k (n:Int)=l->s∈l->∃p,senAt md p=some s:=by
  intro k n l hl hs
  obtain ⟨i,hi,he⟩:=List.mem_iff_getElem.1 hs
  refine ⟨(k,(n:Int),(i:Int)),?_⟩
  unfold senAt
  rw [if_neg (by simp),hl,Int.toNat_natCast,List.getElem?_eq_getElem hi,he]
 rcases h with ⟨x,hx,h | h⟩ | ⟨x,hx,h | h⟩
 all_goals obtain ⟨n,hn,rfl⟩:=List.mem_iff_getElem.1 hx
 ·exact key 1 n _ (senL_stage hn).1 h
 ·exact key 2 n _ (senL_stage hn).2 h
 ·exact key 3 n _ (senL_stone hn).1 h
 exact key 4 n _ (senL_stone hn).2 h
theorem sen_all (md:ModelD) (P:SentryD->Bool):((md.stages.all fun s=>s.opens.all P&&s.closes.all P)=true/\(md.stones.all fun s=>s.done.all P&&s.undo.all P)=true)↔∀p s,senAt md p=some s->P s=true:=by
 simp only [List.all_eq_true,Bool.and_eq_true]
 constructor
 ·rintro ⟨h1,h2⟩ p s hs
  rcases senAt_in hs with ⟨x,hx,h | h⟩ | ⟨x,hx,h | h⟩
  ·exact (h1 x hx).1 s h
  ·exact (h1 x hx).2 s h
  ·exact (h2 x hx).1 s h
  exact (h2 x hx).2 s h
 intro h
 refine ⟨fun x hx=>⟨fun s hs=>?_,fun s hs=>?_⟩,fun x hx=>⟨fun s hs=>?_,fun s hs=>?_⟩⟩
 ·obtain ⟨p,hp⟩:=in_senAt (md:=md) (.inl ⟨x,hx,.inl hs⟩);exact h p s hp
 ·obtain ⟨p,hp⟩:=in_senAt (md:=md) (.inl ⟨x,hx,.inr hs⟩);exact h p s hp
 ·obtain ⟨p,hp⟩:=in_senAt (md:=md) (.inr ⟨x,hx,.inl hs⟩);exact h p s hp
 obtain ⟨p,hp⟩:=in_senAt (md:=md) (.inr ⟨x,hx,.inr hs⟩);exact h p s hp
structure Built (md:ModelD):Prop where
 attrs:rowB (md.attrs.map AttrD.name)=true
 both:rowB (md.events++md.stages.map StageD.name)=true
 stones:rowB (md.stones.map StoneD.name)=true
 kinds:md.attrs.any badAttr=false
 staged:∀n (h:n<md.stages.length),stagedB md n md.stages[n]=true
 sen:∀p s,senAt md p=some s->sentryB md s=true
 apart:md.apart.any badPair=false
theorem builtB_iff (md:ModelD):builtB md=true↔Built md:=by
 have hs:(List.range md.stages.length).all (fun n=>match md.stages[n]? with | none=>true | some s=>stagedB md n s)=true↔∀n (h:n<md.stages.length),stagedB md n md.stages[n]=true:=by
  rw [List.all_eq_true]
  constructor
  ·intro h n hn
   have:=h n (List.mem_range.2 hn)
   rwa [List.getElem?_eq_getElem hn] at this
  intro h n hn
  have hn:=List.mem_range.1 hn
  rw [List.getElem?_eq_getElem hn]
  exact h n hn
 unfold builtB
 simp only [Bool.and_eq_true,Bool.not_eq_true']
 constructor
 ·rintro ⟨⟨⟨⟨⟨⟨⟨h1,h2⟩,h3⟩,h4⟩,h5⟩,h6⟩,h7⟩,h8⟩
  exact ⟨h1,h2,h3,h4,hs.1 h5,(sen_all md _).1 ⟨h6,h7⟩,h8⟩
 intro h
 obtain ⟨h6,h7⟩:=(sen_all md _).2 h.sen
 exact ⟨⟨⟨⟨⟨⟨⟨h.attrs,h.both⟩,h.stones⟩,h.kinds⟩,hs.2 h.staged⟩,h6⟩,h7⟩,h.apart⟩
theorem builtB_no {md:ModelD} (h:¬Built md):builtB md=false:=by
 cases hb:builtB md with
 | false=>rfl
 | true=>exact absurd ((builtB_iff md).1 hb) h
structure ModelD.Txt (md:ModelD):Prop where
 attrs:∀x∈md.attrs,x.name.size<=maxLen
 events:∀x∈md.events,x.size<=maxLen
 stages:∀x∈md.stages,x.name.size<=maxLen
 stones:∀x∈md.stones,x.name.size<=maxLen
theorem own_join {w:World} {base B:Nat} {va:Option Addr} {vc:Nat} {rs ss:List ByteArray} {u:Value} (h:Own w base 9 1 va vc rs.length (rs.map Value.string)) (hb:base<=w.heap.size) (hl:rs.length+ss.length<=4000000) (hu:Strs B w u ss) :
  ∃va' vc' w',(Builtin.append_ #[26,26] 26 #[.slice va rs.length vc,u]).run Tryz.prog w=.ok (.slice va' (rs++ss).length vc') w'/\Strs w'.heap.size w' (.slice va' (rs++ss).length vc') (rs++ss)/\Below base w w':=by
 obtain ⟨a,c,b,o,rfl,-,ha,hc⟩:=hu.cells
 obtain ⟨va',vc',w',hap,ho5,hg5⟩:=Own.app elemStr 26 h hb a ss.length c b o (ss.map Value.string) (by simp) (fun h0=>(ha h0).1) (fun j x hj=>by
  have hjl:=lt_of_some hj
  rw [List.length_map] at hjl
  rw [List.getElem?_map,List.getElem?_eq_getElem hjl] at hj
  injection hj with hj
  rw [<-hj];exact hc j hjl) (fun x hx=>by
  obtain ⟨s,-,rfl⟩:=List.mem_map.1 hx
  rfl) (by unfold maxLen;omega) (by omega)
 have e1:rs.length+ss.length=(rs++ss).length:=by simp
 rw [<-List.map_append] at ho5
 rw [e1] at hap ho5
 refine ⟨va',vc',w',hap,own_strs ho5,(Below.refl _ _).grown hg5 hb (fun j hj=>?_)⟩
 rcases h.block with ⟨h1,_⟩ | ⟨g,h1,h2,_⟩
 ·rw [h1] at hj;cases hj
 rw [h1] at hj;cases hj;exact h2
theorem wpList_append_want {P:Program} {w:World} {ops:Array Oper} {rest:List Oper} {o:Oper} {a:Act} {Q:Exit->Act->World->Prop} (hw:Region.wanted o (yielded ops a.tmps)=true) (s x:Operand) (t:TypeId)
  (ho:o.op=.call { callee:=.builtin .append,args:=#[s,x],argTypes:=#[t,t] }) {v xv v':Value} {w':World} (hs:a.eval s=v) (hx:a.eval x=xv)
  (hr:(Builtin.append_ #[t,t] o.type #[v,xv]).run P w=.ok v' w') (h:wpList P ops Q rest (a.put o.dst v') w'):wpList P ops Q (o :: rest) a w :=
 wpList_step fun K hK=>by
  rw [if_pos hw]
  unfold Oper.wp execOp
  simp only [ho,resolve,invoke,builtin,Sem.run_bind,Sem.run_pure,Result.andThen_ok,List.map_toArray,List.map_cons,List.map_nil,hs,hx,hr]
  exact hK _ _ h
theorem built_walk (md:ModelD) (v:ModelV) (w:World) (hz:md.Sml) (hf:md.Few) (ht:md.Txt) (hM:ModelM false (From 0) w md v) (hv:GRng w) :
  Calls Tryz.prog 20 #[.agg (v.cs md).toArray] w (fun e w'=>e=.returned (.bool (builtB md))/\Below w.heap.size w w'):=by
 obtain ⟨w1,hw1⟩:∃w1,w.alloc (.cells (v.cs md).toArray 31)=w1:=⟨_,rfl⟩
 have hb1:Below w.heap.size w w1:=hw1▸(Below.refl _ _).alloc (Nat.le_refl _) _
 have hx1:Arr w1 w.heap.size 31 (v.cs md):=hw1▸Arr.new w (v.cs md) _
 have HM:=hid (fun W (hb:Below w1.heap.size w1 W)=>hM.grow (hb1.trans (hb.mono hb1.size)))
 have HV:=hid (fun W (hb:Below w1.heap.size w1 W)=>hv.below (hb1.trans (hb.mono hb1.size)))
 have HX:=hid hx1
 have HB1:=hid hb1
 have HW1:=hid hw1
 have HZ:=hid hz
 have HF:=hid hf
 have HT:=hid ht
 obtain ⟨q,hq⟩:∃q,builtB md=q:=⟨_,rfl⟩
 rw [hq]
 have HNO:Hid (¬Built md->false=q):=fun h=>by rw [<-hq,builtB_no h]
 have HYES:Hid (Built md->true=q):=fun h=>by rw [<-hq,(builtB_iff md).2 h]
 have HR:=hid (rows_walk md v w1 hz (hM.grow hb1))
 obtain ⟨y0,y1,y2,y3,y4,y5⟩:=box6 hx1 (Below.refl _ _)
 clear hM hv hb1 hx1 hw1 hz hf ht hq
 go_enter Tryz.func20,Tryz.ntmps20
 go_upto_region 1 with fail
 rw [HW1.out]
 go_wp2_with fail
 refine HR.out.mono ?_
 rintro e w2 ⟨hb2,v1,v2,v3,rfl,s1,s2,s3⟩
 have HB12:=hid hb2
 have HB2:=hid (HB1.out.trans (hb2.mono HB1.out.size))
 clear y0 y1 y2 y3 y4 y5 HR
 obtain ⟨y0,y1,y2,y3,y4,y5⟩:=box6 HX.out hb2
 have hal:=HZ.out.attrs
 have hel:=HZ.out.events
 have hsl:=HZ.out.stages
 have htl:=HZ.out.stones
 obtain ⟨r1,hr1⟩:∃r,rowB (md.attrs.map AttrD.name)=r:=⟨_,rfl⟩
 obtain ⟨r2,hr2⟩:∃r,rowB (md.events++md.stages.map StageD.name)=r:=⟨_,rfl⟩
 obtain ⟨r3,hr3⟩:∃r,rowB (md.stones.map StoneD.name)=r:=⟨_,rfl⟩
 have HC1:=hid (mrow_walk v1 _ w2 (by rw [List.length_map];omega) (fun s hs=>by obtain ⟨x,hx,rfl⟩:=List.mem_map.1 hs;exact HT.out.attrs x hx) s1 (HV.out w2 hb2))
 rw [hr1] at HC1
 have HS2:=hid s2
 have HS3:=hid s3
 have HR1:=hid hr1
 clear hb2 s1 s2 s3 hr1
 cases r1 with
 | false =>
  have HQ:=hid (HNO.out fun h=>by have:=h.attrs;rw [HR1.out] at this;cases this)
  go_wp2_with fail
  refine HC1.out.mono ?_
  rintro e w3 ⟨rfl,hb3⟩
  have HB3:=hid (HB2.out.trans (hb3.mono HB2.out.size))
  clear hb3 HC1
  go_wp2_with fail
  go_ret
  exact ⟨ret_bool HQ.out,HB3.out⟩
 | true =>
  go_wp2_with fail
  refine HC1.out.mono ?_
  rintro e w3 ⟨rfl,hb3⟩
  have hb13:=HB12.out.trans (hb3.mono HB12.out.size)
  have HB13:=hid hb13
  have HB3:=hid (HB1.out.trans (hb13.mono HB1.out.size))
  have HCL:=hid (cloneStrs _ md.events w3 hel (strD_strs (HM.out w3 hb13).events))
  have HS2b:=hid (strs_keep HS2.out hb3)
  have HS3b:=hid (strs_keep HS3.out hb3)
  clear y0 y1 y2 y3 y4 y5 HC1 HS2 HS3
  obtain ⟨y0,y1,y2,y3,y4,y5⟩:=box6 HX.out hb13
  clear hb3 hb13
  go_wp2_with fail
  refine HCL.out.mono ?_
  rintro e w4 ⟨va,vc,rfl,hO,hb4⟩
  have hb14:=HB13.out.trans (hb4.mono HB13.out.size)
  obtain ⟨va',vc',w5,hap,hs5,hb5⟩:=own_join hO hb4.size (by rw [List.length_map];omega) (strs_keep HS2b.out hb4)
  have hb45:=hb4.trans hb5
  have hb15:=HB13.out.trans (hb45.mono HB13.out.size)
  have HB15:=hid hb15
  have HB5:=hid (HB1.out.trans (hb15.mono HB1.out.size))
  have HS3c:=hid (strs_keep HS3b.out hb45)
  have HC2:=hid (mrow_walk _ _ w5 (by rw [List.length_append,List.length_map];omega) (fun s hs=>by
   rcases List.mem_append.1 hs with hs | hs
   ·exact HT.out.events s hs
   obtain ⟨x,hx,rfl⟩:=List.mem_map.1 hs;exact HT.out.stages x hx) hs5 (HV.out w5 hb15))
  rw [hr2] at HC2
  rw [List.length_append,List.length_map] at HC2
  have HR2:=hid hr2
  clear y0 y1 y2 y3 y4 y5 HCL HS2b HS3b
  obtain ⟨y0,y1,y2,y3,y4,y5⟩:=box6 HX.out hb15
  have HAP:=hid hap
  clear hO hb4 hb14 hb5 hb45 hb15 hs5 hr2 hap
  go_wp2_with (at_builtin;refine wpList_append_want (by rfl) (.tmp 23) (.tmp 24) 26 (by rfl) (by rfl) (by rfl) HAP.out ?_)
  refine HC2.out.mono ?_
  rintro e w6 ⟨rfl,hb6⟩
  have hb16:=HB15.out.trans (hb6.mono HB15.out.size)
  have HB16:=hid hb16
  have HB6:=hid (HB1.out.trans (hb16.mono HB1.out.size))
  have HC3:=hid (mrow_walk v3 _ w6 (by rw [List.length_map];omega) (fun s hs=>by obtain ⟨x,hx,rfl⟩:=List.mem_map.1 hs;exact HT.out.stones x hx) (strs_keep HS3c.out hb6) (HV.out w6 hb16))
  rw [hr3] at HC3
  have HR3:=hid hr3
  clear y0 y1 y2 y3 y4 y5 HC2 HS3c HAP
  obtain ⟨y0,y1,y2,y3,y4,y5⟩:=box6 HX.out hb16
  clear hb6 hb16 hr3
  cases r2 with
  | false =>
   have HQ:=hid (HNO.out fun h=>by have:=h.both;rw [HR2.out] at this;cases this)
   go_wp2_with fail
   go_ret
   exact ⟨ret_bool HQ.out,HB6.out⟩
  | true =>
   go_wp2_with fail
   refine HC3.out.mono ?_
   rintro e w7 ⟨rfl,hb7⟩
   have hb17:=HB16.out.trans (hb7.mono HB16.out.size)
   have HB17:=hid hb17
   have HB7:=hid (HB1.out.trans (hb17.mono HB1.out.size))
   have egA:∀args w,(callFunc 46 args).run Tryz.prog w=.ok (.enter 46 args) w:=enters_of Tryz.func46 (by kernel_rfl) rfl
   have HA:=hid (hasAttrG badAttr 46 #[] egA md.attrs _ _ w7 hal (HM.out w7 hb17).attrs (badAttrCl w7))
   clear y0 y1 y2 y3 y4 y5 HC3
   obtain ⟨y0,y1,y2,y3,y4,y5⟩:=box6 HX.out hb17
   clear hb7 hb17 egA
   cases r3 with
   | false =>
    have HQ:=hid (HNO.out fun h=>by have:=h.stones;rw [HR3.out] at this;cases this)
    go_wp2_with fail
    go_ret
    exact ⟨ret_bool HQ.out,HB7.out⟩
   | true =>
    obtain ⟨r4,hr4⟩:∃r,md.attrs.any badAttr=r:=⟨_,rfl⟩
    rw [hr4] at HA
    have HR4:=hid hr4
    clear hr4
    go_wp2_with fail
    refine HA.out.mono ?_
    rintro e w8 ⟨rfl,hb8⟩
    have hb18:=HB17.out.trans (hb8.mono HB17.out.size)
    have HB18:=hid hb18
    have HB8:=hid (HB1.out.trans (hb18.mono HB1.out.size))
    clear y0 y1 y2 y3 y4 y5 HA
    obtain ⟨y0,y1,y2,y3,y4,y5⟩:=box6 HX.out hb18
    clear hb8 hb18
    cases r4 with
    | true =>
     have HQ:=hid (HNO.out fun h=>by have:=h.kinds;rw [HR4.out] at this;cases this)
     go_wp2_with fail
     go_ret
     exact ⟨ret_bool HQ.out,HB8.out⟩
    | false =>
     go_wp2_with fail
     go_loopw [40] (fun i wr=>∃m:Nat,m<=md.stages.length/\i=.int .i64 (m:Int)/\Hid (Below w1.heap.size w1 wr)/\Hid (∀n (h:n<md.stages.length),n<m->stagedB md n md.stages[n]=true)) (fun i _=>md.stages.length-(intOf i).toNat)
     case atStart=>exact ⟨0,Nat.zero_le _,rfl,HB18.out,fun n _ h=>absurd h (Nat.not_lt_zero _)⟩
     obtain ⟨m,hml,rfl,HB,HS⟩:=hrel
     clear y0 y1 y2 y3 y4 y5
     obtain ⟨y0,y1,y2,y3,y4,y5⟩:=box6 HX.out HB.out
     by_cases hlt:m<md.stages.length
     ·have i1:(m:Int)<(md.stages.length:Int):=by omega
      have HML:=hid hlt
      have HC:=hid (staged_walk md v m hlt wr HZ.out (HM.out wr HB.out) (HV.out wr HB.out))
      obtain ⟨r,hr⟩:∃r,stagedB md m (md.stages[m]'hlt)=r:=⟨_,rfl⟩
      rw [hr] at HC
      have HR:=hid hr
      clear hr
      cases r with
      | false =>
       have HQ:=hid (HNO.out fun h=>by have:=h.staged m HML.out;rw [HR.out] at this;cases this)
       go_wp2_with fail
       refine HC.out.mono ?_
       rintro e w9 ⟨rfl,hb9⟩
       have HB9:=hid (HB1.out.trans ((HB.out.trans (hb9.mono HB.out.size)).mono HB1.out.size))
       clear hb9 HC
       go_wp2_with fail
       go_ret
       exact ⟨ret_bool HQ.out,HB9.out⟩
      | true =>
       have wr1:IntKind.i64.wrap ((m:Int)+1)=(m:Int)+1:=wrap_i64 (by omega) (by omega)
       go_wp2_with fail
       refine HC.out.mono ?_
       rintro e w9 ⟨rfl,hb9⟩
       have HB9:=hid (HB.out.trans (hb9.mono HB.out.size))
       have HS9:Hid (∀n (h:n<md.stages.length),n<m+1->stagedB md n md.stages[n]=true):=fun n h hn=>by
        rcases Nat.lt_or_ge n m with h1 | h1
        ·exact HS.out n h h1
        obtain rfl:n=m:=by omega
        exact HR.out
       clear hb9 HC y0 y1 y2 y3 y4 y5 HB HS
       go_wp2_with fail
       refine ⟨⟨m+1,by have:=HML.out;omega,by go_num,HB9,HS9⟩,by simp only [intOf];have:=HML.out;omega⟩
     obtain rfl:m=md.stages.length:=by omega
     have i1:¬(md.stages.length:Int)<(md.stages.length:Int):=by omega
     have HP:=hid (places_walk md v wr HF.out (HM.out wr HB.out))
     have HSA:Hid (∀n (h:n<md.stages.length),stagedB md n md.stages[n]=true):=fun n h=>HS.out n h h
     clear HS
     go_wp2_with fail
     refine HP.out.mono ?_
     rintro e w9 ⟨hb9,g,vc,M,ents,rfl,hg1,hg2,hpl,hMb,hme,hge⟩
     have hb19:=HB.out.trans (hb9.mono HB.out.size)
     have hrg:=hme.range Tryz.underlying51
     obtain ⟨N,hN⟩:∃N,ents.length=N:=⟨_,rfl⟩
     rw [hN] at hrg
     obtain ⟨wA,hwA⟩:∃wA,w9.alloc (.mapIter (some M) N #[] N)=wA:=⟨_,rfl⟩
     have hb9A:Below w9.heap.size w9 wA:=hwA▸(Below.refl _ _).alloc (Nat.le_refl _) _
     have hI0:IterIs wA w9.heap.size M N []:=hwA▸IterIs.made w9 _ _
     have HI0:=hid hI0
     have HMA:=hid (show KM.MapIs plV okPl wA M ents from hme.below hb9A hme.lt)
     have HB1A:=hid (hb19.trans (hb9A.mono hb19.size))
     have HN:=hid hN
     have HGE:=hid hge
     have hsz:w1.heap.size<=w9.heap.size:=hb19.size
     have hrl:w9.heap.size<wA.heap.size:=by rw [<-hwA,size_alloc];omega
     have HRL:=hid hrl
     have hMl:=hme.lt
     rw [hwA] at hrg
     clear hb9 hg1 hg2 hpl hMb hme hge hb19 hwA hb9A hI0 hN HP hrl y0 y1 y2 y3 y4 y5 HB
     go_wp2_with fail
     go_loopg [] N (fun gf wr=>∃seen:List Nat,N<=seen.length+gf/\Hid (IterIs wr w9.heap.size M N seen)/\Hid (KM.MapIs plV okPl wr M ents)/\Hid (Below w1.heap.size w1 wr)/\Hid (w9.heap.size<wr.heap.size)/\Hid (∀i∈seen,∀(h:i<ents.length) s,senAt md ents[i].1=some s->sentryB md s=true))
     case atStart=>exact ⟨[],by simp,HI0.out,HMA.out,HB1A.out,HRL.out,fun i hi=>absurd hi (by simp)⟩
     obtain ⟨seen,hgf,HI,HMM,HB,HR,HSS⟩:=hrel
     have hi1:=HI.out
     rw [<-HN.out] at hi1
     rcases HMM.out.next (P:=Tryz.prog) hi1 0 with ⟨hall,hnx⟩ | ⟨i,hi,hni,w4,hnx,hM4,hI4,hg4,hz4,hen⟩
     ·obtain ⟨y0,y1,y2,y3,y4,y5⟩:=box6 HX.out HB.out
      have egP:∀args w,(callFunc 50 args).run Tryz.prog w=.ok (.enter 50 args) w:=enters_of Tryz.func50 (by kernel_rfl) rfl
      have HPA:=hid (hasPairG badPair 50 #[] egP md.apart _ _ wr HZ.out.apart (HM.out wr HB.out).apart (badPairCl wr (HV.out wr HB.out)))
      obtain ⟨r,hr⟩:∃r,md.apart.any badPair=r:=⟨_,rfl⟩
      rw [hr] at HPA
      have HQ:Hid ((!r)=q):=by
       show _=_
       cases r with
       | true=>exact HNO.out fun h=>by have:=h.apart;rw [hr] at this;cases this
       | false =>
        refine HYES.out ⟨HR1.out,HR2.out,HR3.out,HR4.out,HSA.out,fun p s hs=>?_,hr⟩
        have hk:p∈ents.map (·.1):=by
         rw [<-KM.getM_mem,HGE.out,senP,hs];rfl
        obtain ⟨j,hj,hje⟩:=List.mem_iff_getElem.1 hk
        have hj':j<ents.length:=by simpa using hj
        have hje':ents[j].1=p:=by rw [<-hje];simp
        exact HSS.out j (hall j hj') hj' s (by rw [hje'];exact hs)
      have HB0:=hid (HB1.out.trans (HB.out.mono HB1.out.size))
      clear hi1 hall egP hr HI HMM HB HR HSS hgf
      go_wp2_with fail
      refine HPA.out.mono ?_
      rintro e w5 ⟨rfl,hb5⟩
      have HB5:=hid (HB0.out.trans (hb5.mono HB0.out.size))
      clear hb5 HPA hnx
      go_wp2_with fail
      go_ret
      exact ⟨ret_bool HQ.out,HB5.out⟩
     have hiN:i<N:=by rw [<-HN.out];exact hi
     have hgi:=KM.getM_at HMM.out.nodup hi
     rw [HGE.out,senP] at hgi
     obtain ⟨s,hs,hsv⟩:=Option.map_eq_some_iff.1 hgi
     rw [<-hsv] at hnx hen
     have hb4:Below w1.heap.size w1 w4:=HB.out.grown hg4 HB.out.size (fun j hj=>by cases hj;exact hsz)
     have hb5:=hb4.alloc hb4.size (.cells #[.int .u8 s.on,.string s.name,.string s.cond] 35)
     obtain ⟨y0,y1,y2,y3,y4,y5⟩:=box6 HX.out hb5
     have HC:=hid (sentry_walk md v s _ HZ.out (HM.out _ hb5) (HV.out _ hb5))
     obtain ⟨r,hr⟩:∃r,sentryB md s=r:=⟨_,rfl⟩
     rw [hr] at HC
     have HB4:=hid hb4
     have HB5:=hid hb5
     have HI4:=hid hI4
     have HM4:=hid hM4
     have HRR:=hid hr
     have HSI:=hid hs
     have hR4:w9.heap.size<w4.heap.size:=Nat.lt_of_lt_of_le HR.out (Nat.le_of_eq hz4.symm)
     have HR4':=hid hR4
     have hsl6:=seen_le hI4.nodup hI4.inB
     have hgk:0<gk:=by
      have:=HN.out
      simp at hsl6;omega
     obtain ⟨g0,rfl⟩:∃g0,gk=g0+1:=⟨gk-1,by omega⟩
     have HFU:Hid (N<=(seen++[i]).length+g0):=by show _<=_;simp;omega
     have HII:=hid hi
     simp only [senV] at hnx hen HC
     clear hi1 hni hM4 hI4 hg4 hz4 hgi hs hsv hb4 hb5 hr hR4 hsl6 hgk HI HMM HB HR hgf hiN
     cases r with
     | false =>
      have HQ:=hid (HNO.out fun h=>by have:=h.sen _ s HSI.out;rw [HRR.out] at this;cases this)
      go_wp2_with fail
      refine HC.out.mono ?_
      rintro e w5 ⟨rfl,hb5⟩
      have HB6:=hid (HB1.out.trans ((HB5.out.trans (hb5.mono HB5.out.size)).mono HB1.out.size))
      clear hb5 HC
      go_wp2_with fail
      go_ret
      exact ⟨ret_bool HQ.out,HB6.out⟩
     | true =>
      have HS4:Hid (∀j∈seen++[i],∀(h:j<ents.length) s,senAt md ents[j].1=some s->sentryB md s=true):=fun j hj h t ht=>by
       rcases List.mem_append.1 hj with hj | hj
       ·exact HSS.out j hj h t ht
       have:j=i:=by simpa using hj
       subst this
       rw [HSI.out] at ht
       cases ht
       exact HRR.out
      go_wp2_with fail
      refine HC.out.mono ?_
      rintro e w5 ⟨rfl,hb5⟩
      have hb45:Below w4.heap.size w4 w5:=((Below.refl w4.heap.size w4).alloc (Nat.le_refl _) _).trans (hb5.mono (by rw [size_alloc];omega))
      have HI5:=hid (HI4.out.below hb45 HR4'.out)
      have HM5:=hid (HM4.out.below hb45 HM4.out.lt)
      have HB6:=hid (HB5.out.trans (hb5.mono HB5.out.size))
      have HR5:Hid (w9.heap.size<w5.heap.size):=Nat.lt_of_lt_of_le HR4'.out hb45.size
      clear hb5 hb45 HC y0 y1 y2 y3 y4 y5
      go_wp2_with fail
      go_roundg g0
      case measure=>omega
      case rel=>exact ⟨seen++[i],HFU.out,by rw [HN.out] at HI5;exact HI5,HM5,HB6,HR5,HS4⟩
end Go.Proofs.YtfbbkmdhnkmonaaGreatDoor
