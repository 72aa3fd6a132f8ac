/- Proved, each under the conditions that it names: docketref17: Stage, Stone, Attr; docketref17: judged, at a guard that was read; docketref17: judged, Kind of a guard that was read; docketref18: truth; docketref18: Event, sentry. -/
import Derived.Test.YtfbbkmdhnkmonaaGreatDoorT15
set_option maxRecDepth 100000
set_option maxHeartbeats 32000000
namespace Go.Proofs.YtfbbkmdhnkmonaaGreatDoor
open Go.RowKit
theorem rfStage_walk (md:ModelD) (v:ModelV) (name:ByteArray) (w:World) (hl:md.stages.length<=1048576) (hM:ModelM false (From 0) w md v) :
  Calls Tryz.prog 60 #[.agg (v.cs md).toArray,.string name] w (fun e w'=>e=.returned (.int .i64 (stageIx md name))/\Below w.heap.size w w'):=by
 obtain ⟨w1,hw1⟩:∃w1,w.alloc (.cells (v.cs md).toArray 31)=w1:=⟨_,rfl⟩
 have hb1:Below w.heap.size w w1:=hw1▸(Below.refl _ _).alloc (Nat.le_refl _) _
 have hx1:Arr w1 w.heap.size 31 (v.cs md):=hw1▸Arr.new w (v.cs md) _
 have HM:=hid (hM.grow hb1)
 have HB1:=hid hb1
 have HW1:=hid hw1
 obtain ⟨y0,y1,y2,y3,y4,y5⟩:=box6 hx1 (Below.refl _ _)
 obtain ⟨q,hq⟩:∃q,stageIx md name=q:=⟨_,rfl⟩
 rw [hq]
 have HQ:=hid hq
 clear hM hb1 hx1 hw1 hq
 go_enter Tryz.func60,Tryz.ntmps60
 go_upto_region 1 with fail
 rw [HW1.out]
 go_wp2_with fail
 go_loopw [5] (fun i wr=>∃m:Nat,m<=md.stages.length/\i=.int .i64 (m:Int)/\wr=w1/\Hid (∀j (_:j<m) (h:j<md.stages.length),(md.stages[j].name.toList==name.toList)=false)) (fun i _=>md.stages.length-(intOf i).toNat)
 case atStart=>exact ⟨0,Nat.zero_le _,rfl,rfl,fun j hj=>absurd hj (Nat.not_lt_zero _)⟩
 obtain ⟨m,hml,rfl,rfl,HS⟩:=hrel
 by_cases hlt:m<md.stages.length
 ·have i1:(m:Int)<(md.stages.length:Int):=by omega
  have i2:(0:Int)<=(m:Int):=by omega
  have HML:=hid hlt
  obtain ⟨b,off,ha,hbl,d1,e1,d2,e2,-,-,c0,-,-,-,-,-,-⟩:=stage_at HM.out hlt
  have hy:=y3
  rw [ha] at hy
  have k3:IntKind.i64.wrap ((m:Int)+1)=(m:Int)+1:=wrap_i64 (by omega) (by omega)
  obtain ⟨sn,hsn⟩:∃sn,(md.stages[m]'hlt).name=sn:=⟨_,rfl⟩
  rw [hsn] at c0
  cases hc:sn.toList==name.toList with
  | true =>
   have HQ2:Hid ((m:Int)=q):=by
    show _=_
    rw [<-HQ.out,stageIx]
    exact (ixOf_hit hlt (fun j hj=>HS.out j hj (by omega)) (by simp only [hsn];exact hc)).symm
   clear hsn ha HS y3
   go_wp2_with fail
   go_ret
   exact ⟨ret_int HQ2.out,HB1.out⟩
  | false =>
   have HS2:Hid (∀j (_:j<m+1) (h:j<md.stages.length),(md.stages[j].name.toList==name.toList)=false):=fun j hj h=>by
    rcases Nat.lt_or_ge j m with h1 | h1
    ·exact HS.out j h1 h
    obtain rfl:j=m:=by omega
    rw [hsn];exact hc
   clear hsn ha HS y3
   go_wp2_with fail
   refine ⟨⟨m+1,by have:=HML.out;omega,by go_num,by first | trivial | rfl,HS2⟩,by simp only [intOf];have:=HML.out;omega⟩
 obtain rfl:m=md.stages.length:=by omega
 have i1:¬(md.stages.length:Int)<(md.stages.length:Int):=by omega
 have HQ2:Hid (-1=q):=by
  show _=_
  rw [<-HQ.out,stageIx]
  exact (ixOf_miss fun j hj=>HS.out j hj hj).symm
 clear HS
 go_wp2_with fail
 go_ret
 exact ⟨ret_int HQ2.out,HB1.out⟩
theorem rfStone_walk (md:ModelD) (v:ModelV) (name:ByteArray) (w:World) (hl:md.stones.length<=1048576) (hM:ModelM false (From 0) w md v) :
  Calls Tryz.prog 62 #[.agg (v.cs md).toArray,.string name] w (fun e w'=>e=.returned (.int .i64 (stoneIx md name))/\Below w.heap.size w w'):=by
 obtain ⟨w1,hw1⟩:∃w1,w.alloc (.cells (v.cs md).toArray 31)=w1:=⟨_,rfl⟩
 have hb1:Below w.heap.size w w1:=hw1▸(Below.refl _ _).alloc (Nat.le_refl _) _
 have hx1:Arr w1 w.heap.size 31 (v.cs md):=hw1▸Arr.new w (v.cs md) _
 have HM:=hid (hM.grow hb1)
 have HB1:=hid hb1
 have HW1:=hid hw1
 obtain ⟨y0,y1,y2,y3,y4,y5⟩:=box6 hx1 (Below.refl _ _)
 obtain ⟨q,hq⟩:∃q,stoneIx md name=q:=⟨_,rfl⟩
 rw [hq]
 have HQ:=hid hq
 clear hM hb1 hx1 hw1 hq
 go_enter Tryz.func62,Tryz.ntmps62
 go_upto_region 1 with fail
 rw [HW1.out]
 go_wp2_with fail
 go_loopw [5] (fun i wr=>∃m:Nat,m<=md.stones.length/\i=.int .i64 (m:Int)/\wr=w1/\Hid (∀j (_:j<m) (h:j<md.stones.length),(md.stones[j].name.toList==name.toList)=false)) (fun i _=>md.stones.length-(intOf i).toNat)
 case atStart=>exact ⟨0,Nat.zero_le _,rfl,rfl,fun j hj=>absurd hj (Nat.not_lt_zero _)⟩
 obtain ⟨m,hml,rfl,rfl,HS⟩:=hrel
 by_cases hlt:m<md.stones.length
 ·have i1:(m:Int)<(md.stones.length:Int):=by omega
  have i2:(0:Int)<=(m:Int):=by omega
  have HML:=hid hlt
  obtain ⟨b,off,ha,hbl,d1,e1,d2,e2,-,-,c0,-,-⟩:=stone_at HM.out hlt
  have hy:=y4
  rw [ha] at hy
  have k3:IntKind.i64.wrap ((m:Int)+1)=(m:Int)+1:=wrap_i64 (by omega) (by omega)
  obtain ⟨sn,hsn⟩:∃sn,(md.stones[m]'hlt).name=sn:=⟨_,rfl⟩
  rw [hsn] at c0
  cases hc:sn.toList==name.toList with
  | true =>
   have HQ2:Hid ((m:Int)=q):=by
    show _=_
    rw [<-HQ.out,stoneIx]
    exact (ixOf_hit hlt (fun j hj=>HS.out j hj (by omega)) (by simp only [hsn];exact hc)).symm
   clear hsn ha HS y4
   go_wp2_with fail
   go_ret
   exact ⟨ret_int HQ2.out,HB1.out⟩
  | false =>
   have HS2:Hid (∀j (_:j<m+1) (h:j<md.stones.length),(md.stones[j].name.toList==name.toList)=false):=fun j hj h=>by
    rcases Nat.lt_or_ge j m with h1 | h1
    ·exact HS.out j h1 h
    obtain rfl:j=m:=by omega
    rw [hsn];exact hc
   clear hsn ha HS y4
   go_wp2_with fail
   refine ⟨⟨m+1,by have:=HML.out;omega,by go_num,by first | trivial | rfl,HS2⟩,by simp only [intOf];have:=HML.out;omega⟩
 obtain rfl:m=md.stones.length:=by omega
 have i1:¬(md.stones.length:Int)<(md.stones.length:Int):=by omega
 have HQ2:Hid (-1=q):=by
  show _=_
  rw [<-HQ.out,stoneIx]
  exact (ixOf_miss fun j hj=>HS.out j hj hj).symm
 clear HS
 go_wp2_with fail
 go_ret
 exact ⟨ret_int HQ2.out,HB1.out⟩
theorem rfAttr_walk (md:ModelD) (v:ModelV) (name:ByteArray) (w:World) (hl:md.attrs.length<=1048576) (hM:ModelM false (From 0) w md v) :
  Calls Tryz.prog 182 #[.agg (v.cs md).toArray,.string name] w (fun e w'=>e=.returned (.int .i64 (attrIx md name))/\Below w.heap.size w w'):=by
 obtain ⟨w1,hw1⟩:∃w1,w.alloc (.cells (v.cs md).toArray 31)=w1:=⟨_,rfl⟩
 have hb1:Below w.heap.size w w1:=hw1▸(Below.refl _ _).alloc (Nat.le_refl _) _
 have hx1:Arr w1 w.heap.size 31 (v.cs md):=hw1▸Arr.new w (v.cs md) _
 have HM:=hid (hM.grow hb1)
 have HB1:=hid hb1
 have HW1:=hid hw1
 obtain ⟨y0,y1,y2,y3,y4,y5⟩:=box6 hx1 (Below.refl _ _)
 obtain ⟨q,hq⟩:∃q,attrIx md name=q:=⟨_,rfl⟩
 rw [hq]
 have HQ:=hid hq
 clear hM hb1 hx1 hw1 hq
 go_enter Tryz.func182,Tryz.ntmps182
 go_upto_region 1 with fail
 rw [HW1.out]
 go_wp2_with fail
 go_loopw [5] (fun i wr=>∃m:Nat,m<=md.attrs.length/\i=.int .i64 (m:Int)/\wr=w1/\Hid (∀j (_:j<m) (h:j<md.attrs.length),(md.attrs[j].name.toList==name.toList)=false)) (fun i _=>md.attrs.length-(intOf i).toNat)
 case atStart=>exact ⟨0,Nat.zero_le _,rfl,rfl,fun j hj=>absurd hj (Nat.not_lt_zero _)⟩
 obtain ⟨m,hml,rfl,rfl,HS⟩:=hrel
 by_cases hlt:m<md.attrs.length
 ·have i1:(m:Int)<(md.attrs.length:Int):=by omega
  have i2:(0:Int)<=(m:Int):=by omega
  have HML:=hid hlt
  obtain ⟨b,off,ha,hbl,c0,-⟩:=attr_at HM.out hlt
  have hy:=y1
  rw [ha] at hy
  have k3:IntKind.i64.wrap ((m:Int)+1)=(m:Int)+1:=wrap_i64 (by omega) (by omega)
  obtain ⟨sn,hsn⟩:∃sn,(md.attrs[m]'hlt).name=sn:=⟨_,rfl⟩
  rw [hsn] at c0
  cases hc:sn.toList==name.toList with
  | true =>
   have HQ2:Hid ((m:Int)=q):=by
    show _=_
    rw [<-HQ.out,attrIx]
    exact (ixOf_hit hlt (fun j hj=>HS.out j hj (by omega)) (by simp only [hsn];exact hc)).symm
   clear hsn ha HS y1
   go_wp2_with fail
   go_ret
   exact ⟨ret_int HQ2.out,HB1.out⟩
  | false =>
   have HS2:Hid (∀j (_:j<m+1) (h:j<md.attrs.length),(md.attrs[j].name.toList==name.toList)=false):=fun j hj h=>by
    rcases Nat.lt_or_ge j m with h1 | h1
    ·exact HS.out j h1 h
    obtain rfl:j=m:=by omega
    rw [hsn];exact hc
   clear hsn ha HS y1
   go_wp2_with fail
   refine ⟨⟨m+1,by have:=HML.out;omega,by go_num,by first | trivial | rfl,HS2⟩,by simp only [intOf];have:=HML.out;omega⟩
 obtain rfl:m=md.attrs.length:=by omega
 have i1:¬(md.attrs.length:Int)<(md.attrs.length:Int):=by omega
 have HQ2:Hid (-1=q):=by
  show _=_
  rw [<-HQ.out,attrIx]
  exact (ixOf_miss fun j hj=>HS.out j hj hj).symm
 clear HS
 go_wp2_with fail
 go_ret
 exact ⟨ret_int HQ2.out,HB1.out⟩
def finJ (md:ModelD) (K:Nat) (tx:ByteArray) (x y:Int):Int×Int :=
 if K<=2 then (1,0) else if K=3 then (2,0) else if K=4 then (3,0)
 else if K=5 then (if attrIx md tx<0 then (0,6) else match md.attrs[(attrIx md tx).toNat]? with
   | none=>(0,6)
   | some a=>if a.kind<1\/3<a.kind then (0,171) else (a.kind,0))
 else if K=6 then (if stageIx md tx<0 then (0,6) else (1,0))
 else if K=7 then (if stoneIx md tx<0 then (0,6) else (1,0))
 else if K=8 then (if x=1 then (1,0) else (0,171))
 else if K=9\/K=10 then (if x=1/\y=1 then (1,0) else (0,171))
 else if K=11 then (if y=x then (1,0) else (0,171))
 else if x=2/\y=2 then (if K=12 then 1 else 2,0) else (0,171)
def kidC (R:Nat->Int×Int) (m:Nat):List Value:=(List.range m).map fun j=>.int .u8 (R j).1
theorem kidC_succ (R:Nat->Int×Int) (m:Nat):kidC R (m+1)=kidC R m++[.int .u8 (R m).1]:=by
 unfold kidC;rw [List.range_succ,List.map_append];rfl
structure JudgIs (md:ModelD) (K:Nat) (tx:ByteArray) (l:Nat) (R:Nat->Int×Int) (res:Int×Int):Prop where
 bad:∀m,m<l->(R m).2≠0->(∀j,j<m->(R j).2=0)->res=(0,(R m).2)
 good:(∀j,j<l->(R j).2=0)->res=finJ md K tx (R 0).1 (R 1).1
abbrev gCells (w:World) (B:Nat) (K:Nat) (n:Int) (tx:ByteArray) (a:Option Addr) (l c:Nat):Prop:=w.cell? ⟨B,0,none⟩=some (.int .u8 K)/\w.cell? ⟨B,1,none⟩=some (.int .i64 n)/\w.cell? ⟨B,2,none⟩=some (.string tx)/\w.cell? ⟨B,3,none⟩=some (.slice a l c)
theorem rfJudged_gen (md:ModelD) (v:ModelV) (hz:md.Sml) (K:Nat) (n:Int) (tx:ByteArray) (g:GD) (cs:List Value) (w:World) (hK:1<=K/\K<=15) (hg:g=.node K n tx g.kids) (hL:g.kids.length=kidsK K) (h:GIn w g cs) (hM:ModelM false (From 0) w md v)
  (R:Nat->Int×Int) (res:Int×Int) (hR:JudgIs md K tx (kidsK K) R res)
  (ih:∀m (hm:m<g.kids.length) (cs:List Value) (W:World),GIn W g.kids[m] cs->ModelM false (From 0) W md v->Calls Tryz.prog 161 #[.agg cs.toArray,.agg (v.cs md).toArray] W fun e w'=>e=tup2 (R m)/\Below W.heap.size W w') :
  Calls Tryz.prog 161 #[.agg cs.toArray,.agg (v.cs md).toArray] w fun e w'=>e=tup2 res/\Below w.heap.size w w':=by
 obtain ⟨k,n',sx,a,c,b,off,heg,rfl,hl,-,hb,hk⟩:=h.kid
 rw [hg] at heg
 simp only [GD.node.injEq] at heg
 obtain ⟨rfl,rfl,rfl,-⟩:=heg
 obtain ⟨va1,vc1,va2,vc2,va3,vc3,va4,vc4,va5,vc5⟩:=v
 have HK:=hid hk
 have HIH:=hid ih
 have HR:=hid hR
 obtain ⟨l,hl'⟩:∃l,g.kids.length=l:=⟨_,rfl⟩
 have hlk:kidsK K=l:=by rw [<-hL,hl']
 rw [hlk] at HR
 rw [hl'] at hb hl ⊢
 have HL:=hid hl'
 have HLK:=hid hlk
 unfold maxLen at hl
 have hl2:l<=2:=by rw [<-hlk];unfold kidsK;split<;>(try split)<;>omega
 obtain ⟨w0,hw0⟩:∃w0,w.alloc (.cells #[.int .u8 K,.int .i64 n,.string tx,.slice a l c] 80)=w0:=⟨_,rfl⟩
 obtain ⟨w1,hw1⟩:∃w1,w0.alloc (.cells (ModelV.cs ⟨va1,vc1,va2,vc2,va3,vc3,va4,vc4,va5,vc5⟩ md).toArray 31)=w1:=⟨_,rfl⟩
 have hz0:w0.heap.size=w.heap.size+1:=by rw [<-hw0,size_alloc]
 have hb0:Below w.heap.size w w0:=hw0▸(Below.refl _ _).alloc (Nat.le_refl _) _
 have hb01:Below w0.heap.size w0 w1:=hw1▸(Below.refl _ _).alloc (Nat.le_refl _) _
 have hb1:Below w.heap.size w w1:=hb0.trans (hb01.mono hb0.size)
 have hG:Arr w1 w.heap.size 80 [.int .u8 K,.int .i64 n,.string tx,.slice a l c]:=hw1▸(show Arr w0 _ _ _ from hw0▸Arr.new w _ _).alloc _
 have hX:Arr w1 (w.heap.size+1) 31 (ModelV.cs ⟨va1,vc1,va2,vc2,va3,vc3,va4,vc4,va5,vc5⟩ md):=by
  have:=Arr.new w0 (ModelV.cs ⟨va1,vc1,va2,vc2,va3,vc3,va4,vc4,va5,vc5⟩ md) 31
  rw [hz0] at this
  exact hw1▸this
 have HW:Hid ((w.alloc (.cells #[.int .u8 K,.int .i64 n,.string tx,.slice a l c] 80)).alloc (.cells (ModelV.cs ⟨va1,vc1,va2,vc2,va3,vc3,va4,vc4,va5,vc5⟩ md).toArray 31)=w1):=by
  show _=_
  rw [hw0];exact hw1
 have HM:=hid (fun W (hb:Below w.heap.size w W)=>hM.grow hb)
 have HB1:=hid hb1
 have HZ:=hid hz
 have HSW:Hid (∀W',Below w1.heap.size w1 W'->(Below w1.heap.size w1 W'/\W'.cell? ⟨w.heap.size,0,none⟩=some (.int .u8 K)/\W'.cell? ⟨w.heap.size,1,none⟩=some (.int .i64 n)/\W'.cell? ⟨w.heap.size,2,none⟩=some (.string tx)/\W'.cell? ⟨w.heap.size,3,none⟩=some (.slice a l c)/\W'.cell? ⟨w.heap.size+1,0,none⟩=some (.string md.name)/\W'.cell? ⟨w.heap.size+1,1,none⟩=some (.slice va1 md.attrs.length vc1)/\W'.cell? ⟨w.heap.size+1,2,none⟩=some (.slice va2 md.events.length vc2)/\W'.cell? ⟨w.heap.size+1,3,none⟩=some (.slice va3 md.stages.length vc3)/\W'.cell? ⟨w.heap.size+1,4,none⟩=some (.slice va4 md.stones.length vc4)/\W'.cell? ⟨w.heap.size+1,5,none⟩=some (.slice va5 md.apart.length vc5))):=fun W' hb=>by
  obtain ⟨g0,g1,g2,g3⟩:=box4 hG hb
  obtain ⟨m0,m1,m2,m3,m4,m5⟩:=box6 hX hb
  exact ⟨hb,g0,g1,g2,g3,m0,m1,m2,m3,m4,m5⟩
 clear hk hl' h hb1 hb0 hb01 hG hX hg hL ih hR hM hw0 hw1 hz0 hz hlk
 obtain ⟨-,g0,g1,g2,g3,m0,m1,m2,m3,m4,m5⟩:=HSW.out w1 (Below.refl _ _)
 go_enter Tryz.func161,Tryz.ntmps161
 go_upto_region 1 with fail
 rw [HW.out]
 go_wp2_with fail
 go_loopw [6,7] (fun q i wr=>∃(m:Nat) (va:Option Addr) (vc:Nat),m<=l/\i=.int .i64 (m:Int)/\q=.slice va m vc/\Hid (Own wr w1.heap.size 5 1 va vc m (kidC R m))/\Hid (Below w1.heap.size w1 wr)/\Hid (∀j,j<m->(R j).2=0)) (fun _ i _=>l-(intOf i).toNat)
 case atStart=>exact ⟨0,none,0,Nat.zero_le _,rfl,rfl,Own.nil _ _ _ _,Below.refl _ _,fun j h=>absurd h (Nat.not_lt_zero _)⟩
 obtain ⟨m,va,vc,hml,rfl,rfl,HO,HB,HZR⟩:=hrel
 clear g0 g1 g2 g3 m0 m1 m2 m3 m4 m5
 obtain ⟨-,g0,g1,g2,g3,m0,m1,m2,m3,m4,m5⟩:=HSW.out wr HB.out
 have HBB:=hid (HB1.out.trans (HB.out.mono HB1.out.size))
 by_cases hlt:m<l
 ·obtain ⟨rfl,hbl⟩:=hb (by omega)
  have i1:(m:Int)<(l:Int):=by omega
  have i2:(0:Int)<=(m:Int):=by omega
  have HML:=hid hlt
  have hmk:m<g.kids.length:=by rw [HL.out];exact hlt
  obtain ⟨c0,c1,c2,c3,y0,y1,y2,y3,hgi⟩:=HK.out m hmk
  obtain ⟨k2,n2,s2,a2,l2,cc2,he⟩:=hgi.four
  simp only [List.cons.injEq,and_true] at he
  obtain ⟨rfl,rfl,rfl,rfl⟩:=he
  have HIH2:=hid (fun W (hb:Below w.heap.size w W)=>HIH.out m hmk _ W (hgi.keepB hb) (HM.out W hb))
  obtain ⟨r,hr⟩:∃r,R m=r:=⟨_,rfl⟩
  rw [hr] at HIH2
  have HRM:=hid hr
  have wr1:IntKind.i64.wrap ((m:Int)+1)=(m:Int)+1:=wrap_i64 (by omega) (by omega)
  obtain ⟨wo,rfl⟩:∃wo,wo=wr:=⟨_,rfl⟩
  have HSX:Hid (∀W',Below wo.heap.size wo W'->(Below wo.heap.size wo W'/\W'.cell? ⟨w.heap.size,0,none⟩=some (.int .u8 K)/\W'.cell? ⟨w.heap.size,1,none⟩=some (.int .i64 n)/\W'.cell? ⟨w.heap.size,2,none⟩=some (.string tx)/\W'.cell? ⟨w.heap.size,3,none⟩=some (.slice (some ⟨b,off,none⟩) l c)/\W'.cell? ⟨w.heap.size+1,0,none⟩=some (.string md.name)/\W'.cell? ⟨w.heap.size+1,1,none⟩=some (.slice va1 md.attrs.length vc1)/\W'.cell? ⟨w.heap.size+1,2,none⟩=some (.slice va2 md.events.length vc2)/\W'.cell? ⟨w.heap.size+1,3,none⟩=some (.slice va3 md.stages.length vc3)/\W'.cell? ⟨w.heap.size+1,4,none⟩=some (.slice va4 md.stones.length vc4)/\W'.cell? ⟨w.heap.size+1,5,none⟩=some (.slice va5 md.apart.length vc5)/\W'.cell? ⟨b,off+m*4,none⟩=some (.int .u8 k2)/\W'.cell? ⟨b,off+m*4+1,none⟩=some (.int .i64 n2)/\W'.cell? ⟨b,off+m*4+2,none⟩=some (.string s2)/\W'.cell? ⟨b,off+m*4+3,none⟩=some (.slice a2 l2 cc2))):=fun W' hb=>by
   obtain ⟨-,g0,g1,g2,g3,m0,m1,m2,m3,m4,m5⟩:=HSW.out W' (HB.out.trans (hb.mono HB.out.size))
   have hbb:=HBB.out.trans (hb.mono HBB.out.size)
   exact ⟨hb,g0,g1,g2,g3,m0,m1,m2,m3,m4,m5,(hbb.cell (p:=⟨b,off+m*4,none⟩) hbl).trans y0,(hbb.cell (p:=⟨b,off+m*4+1,none⟩) hbl).trans y1,(hbb.cell (p:=⟨b,off+m*4+2,none⟩) hbl).trans y2,(hbb.cell (p:=⟨b,off+m*4+3,none⟩) hbl).trans y3⟩
  have hq0:=(Below.refl wo.heap.size wo).drew
  clear hgi hr y0 y1 y2 y3 hlt hmk
  go_upto_region 5 with fail
  clear g0 g1 g2 g3 m0 m1 m2 m3 m4 m5
  go_region_held3 (fun W'=>Below wo.heap.size wo W'/\W'.cell? ⟨w.heap.size,0,none⟩=some (.int .u8 K)/\W'.cell? ⟨w.heap.size,1,none⟩=some (.int .i64 n)/\W'.cell? ⟨w.heap.size,2,none⟩=some (.string tx)/\W'.cell? ⟨w.heap.size,3,none⟩=some (.slice (some ⟨b,off,none⟩) l c)/\W'.cell? ⟨w.heap.size+1,0,none⟩=some (.string md.name)/\W'.cell? ⟨w.heap.size+1,1,none⟩=some (.slice va1 md.attrs.length vc1)/\W'.cell? ⟨w.heap.size+1,2,none⟩=some (.slice va2 md.events.length vc2)/\W'.cell? ⟨w.heap.size+1,3,none⟩=some (.slice va3 md.stages.length vc3)/\W'.cell? ⟨w.heap.size+1,4,none⟩=some (.slice va4 md.stones.length vc4)/\W'.cell? ⟨w.heap.size+1,5,none⟩=some (.slice va5 md.apart.length vc5)/\W'.cell? ⟨b,off+m*4,none⟩=some (.int .u8 k2)/\W'.cell? ⟨b,off+m*4+1,none⟩=some (.int .i64 n2)/\W'.cell? ⟨b,off+m*4+2,none⟩=some (.string s2)/\W'.cell? ⟨b,off+m*4+3,none⟩=some (.slice a2 l2 cc2))
   (first | exact HSX.out _ (Below.refl _ _) | exact HSX.out _ hq0 | exact HSX.out _ hq1)
   (first
    | (go_at_call 161;refine (HIH2.out _ (HBB.out.trans (hq0.mono HBB.out.size))).mono ?_;rintro e W1 ⟨rfl,hb⟩;have hq1:=hq0.trans (hb.mono hq0.size);clear hb HIH2))
  rename World=>w4
  have HO4:=hid (HO.out.below hq1 (Nat.le_refl _))
  have HB4:=hid (HB.out.trans (hq1.mono HB.out.size))
  clear HO HB hq0 hq1
  by_cases hz:r.2=0
  ·have e1:(r.2 != 0)=false:=by simp [hz]
   have HZ2:=hid hz
   obtain ⟨w5,hw5⟩:∃w5,w4.alloc (.cells #[.int .u8 r.1] 5)=w5:=⟨_,rfl⟩
   have hc5:w5.cell? ⟨w4.heap.size,0,none⟩=some (.int .u8 r.1):=hw5▸(Arr.new w4 [.int .u8 r.1] _).cell (j:=0) (by simp)
   have hb5:Below w1.heap.size w1 w5:=hw5▸HB4.out.alloc HB4.out.size _
   have ho5:=(show Own w5 w1.heap.size 5 1 va vc m _ from hw5▸HO4.out.alloc _)
   obtain ⟨va',vc',w6,hap,ho6,hg6⟩:=Own.app elemU8 237 ho5 hb5.size (some ⟨w4.heap.size,0,none⟩) 1 1 w4.heap.size 0 [.int .u8 r.1] rfl (fun _=>rfl) (fun j u hj=>by
    cases j with
    | zero=>simp at hj;subst hj;exact hc5
    | succ j=>simp at hj) (fun u hu=>by rw [List.mem_singleton.1 hu];rfl) (by unfold maxLen;omega) (by omega)
   rw [<-hw5] at hap
   have HAP:=hid hap
   have HO6:Hid (Own w6 w1.heap.size 5 1 va' vc' (m+1) (kidC R (m+1))):=by
    show Own _ _ _ _ _ _ _ _
    rw [kidC_succ,HRM.out];exact ho6
   have HB6:=hid (hb5.grown hg6 hb5.size (fun j hj=>by
    rcases ho5.block with ⟨h1,_⟩ | ⟨g,h1,h2,_⟩
    ·rw [h1] at hj;cases hj
    rw [h1] at hj;cases hj;exact h2))
   have HZ6:Hid (∀j,j<m+1->(R j).2=0):=fun j hj=>by
    rcases Nat.lt_or_ge j m with h1 | h1
    ·exact HZR.out j h1
    obtain rfl:j=m:=by omega
    rw [HRM.out];exact HZ2.out
   clear hc5 hb5 ho5 hap ho6 hg6 hw5 hz HO4 HRM HZR HSX
   go_wp2_with (at_builtin;refine wpList_append_run (by rfl) (.tmp 31) (.tmp 33) 237 (by rfl) (by rfl) (by rfl) HAP.out ?_)
   refine ⟨⟨m+1,va',vc',by have:=HML.out;omega,by go_num,rfl,HO6,HB6,HZ6⟩,by simp only [intOf];have:=HML.out;omega⟩
  have e1:(r.2 != 0)=true:=by simpa using hz
  have HRE:Hid (res=(0,r.2)):=by
   show _=_
   have:=HR.out.bad m HML.out (by rw [HRM.out];exact hz) HZR.out
   rw [HRM.out] at this
   exact this
  have HBF:=hid (HB1.out.trans (HB4.out.mono HB1.out.size))
  clear hz HRM HO4 HZR HSX
  go_wp2_with fail
  go_ret2
  rw [HRE.out]
  exact ⟨rfl,HBF.out⟩
 obtain rfl:m=l:=by omega
 have i1:¬(m:Int)<(m:Int):=by omega
 have HG:Hid (finJ md K tx (R 0).1 (R 1).1=res):=(HR.out.good fun j hj=>HZR.out j hj).symm
 have HOC:=hid HO.out
 have HLK2:=hid HLK.out
 have HBM:=hid HM.out
 have fin:∀ {r:Int×Int} {W:World},r=res->Below w.heap.size w W->tup2 r=tup2 res/\Below w.heap.size w W:=fun h hb=>⟨by rw [h],hb⟩
 have HFIN:=hid (fun r W h hb=>fin (r:=r) (W:=W) h hb)
 clear fin HO HZR hlt hml hb
 have hcase:K=1\/K=2\/K=3\/K=4\/K=5\/K=6\/K=7\/K=8\/K=9\/K=10\/K=11\/K=12\/12<K:=by omega
 rcases hcase with hk | hk | hk | hk | hk | hk | hk | hk | hk | hk | hk | hk | hk
 ·have e1:((K:Int)==1)=true:=by subst hk;rfl
  have HE:Hid (((1:Int),(0:Int))=res):=by show _=_;rw [<-HG.out];subst hk;rfl
  clear hk
  go_wp2_with fail
  go_ret2
  exact HFIN.out _ _ HE.out HBB.out
 ·have e1:((K:Int)==1)=false:=by simp;omega
  have e2:((K:Int)==2)=true:=by subst hk;rfl
  have HE:Hid (((1:Int),(0:Int))=res):=by show _=_;rw [<-HG.out];subst hk;rfl
  clear hk
  go_wp2_with fail
  go_ret2
  exact HFIN.out _ _ HE.out HBB.out
 ·have e1:((K:Int)==1)=false:=by simp;omega
  have e2:((K:Int)==2)=false:=by simp;omega
  have e3:((K:Int)==3)=true:=by subst hk;rfl
  have HE:Hid (((2:Int),(0:Int))=res):=by show _=_;rw [<-HG.out];subst hk;rfl
  clear hk
  go_wp2_with fail
  go_ret2
  exact HFIN.out _ _ HE.out HBB.out
 ·have e1:((K:Int)==1)=false:=by simp;omega
  have e2:((K:Int)==2)=false:=by simp;omega
  have e3:((K:Int)==3)=false:=by simp;omega
  have e4:((K:Int)==4)=true:=by subst hk;rfl
  have HE:Hid (((3:Int),(0:Int))=res):=by show _=_;rw [<-HG.out];subst hk;rfl
  clear hk
  go_wp2_with fail
  go_ret2
  exact HFIN.out _ _ HE.out HBB.out
 ·have e1:((K:Int)==1)=false:=by simp;omega
  have e2:((K:Int)==2)=false:=by simp;omega
  have e3:((K:Int)==3)=false:=by simp;omega
  have e4:((K:Int)==4)=false:=by simp;omega
  have e5:((K:Int)==5)=true:=by subst hk;rfl
  have HC:=hid (rfAttr_walk md ⟨va1,vc1,va2,vc2,va3,vc3,va4,vc4,va5,vc5⟩ tx wr HZ.out.attrs (HM.out wr HBB.out))
  have hle:=attrIx_le md tx
  obtain ⟨q,hq⟩:∃q,attrIx md tx=q:=⟨_,rfl⟩
  rw [hq] at HC hle
  by_cases hneg:q<0
  ·have HE:Hid (((0:Int),(6:Int))=res):=by show _=_;rw [<-HG.out];subst hk;simp only [finJ,hq,if_pos hneg];simp
   clear hq hk hle
   go_wp2_with fail
   refine HC.out.mono ?_
   rintro e w4 ⟨rfl,hb4⟩
   have HB4:=hid (HBB.out.trans (hb4.mono HBB.out.size))
   clear hb4 HC
   go_wp2_with fail
   go_ret2
   exact HFIN.out _ _ HE.out HB4.out
  obtain ⟨p,rfl⟩:∃p:Nat,q=p:=⟨q.toNat,by omega⟩
  have hpl:p<md.attrs.length:=by omega
  have i4:(p:Int)<(md.attrs.length:Int):=by omega
  have i5:(0:Int)<=(p:Int):=by omega
  have i6:¬(p:Int)<0:=by omega
  have HF:Hid (∀r,(if (md.attrs[p]'hpl).kind<1\/3<(md.attrs[p]'hpl).kind then ((0:Int),(171:Int)) else ((md.attrs[p]'hpl).kind,0))=r->r=res):=fun r h=>by
   rw [<-h,<-HG.out];subst hk;simp only [finJ,hq,if_neg hneg,Int.toNat_natCast,List.getElem?_eq_getElem hpl];simp
  clear hk hle hneg
  go_upto_region 19 with (go_at_call 182;refine HC.out.mono ?_;rintro e w4 ⟨rfl,hb4⟩;have HB4:=hid (HBB.out.trans (hb4.mono HBB.out.size));have HB14:=hid (HB.out.trans (hb4.mono HB.out.size));clear hb4 HC g0 g1 g2 g3 m0 m1 m2 m3 m4 m5)
  obtain ⟨-,g0,g1,g2,g3,m0,m1,m2,m3,m4,m5⟩:=HSW.out w4 HB14.out
  obtain ⟨b',off',ha',hbl',-,ck⟩:=attr_at (HM.out w4 HB4.out) hpl
  obtain rfl:va1=some ⟨b',off',none⟩:=ha'
  obtain ⟨kd,hkd⟩:∃kd,(md.attrs[p]'hpl).kind=kd:=⟨_,rfl⟩
  rw [hkd] at ck HF
  clear hkd hpl hq
  by_cases h1:kd<1
  ·have HE:Hid (((0:Int),(171:Int))=res):=HF.out _ (if_pos (.inl h1))
   go_wp2_with fail
   go_ret2
   exact HFIN.out _ _ HE.out HB4.out
  by_cases h3:3<kd
  ·have HE:Hid (((0:Int),(171:Int))=res):=HF.out _ (if_pos (.inr h3))
   go_wp2_with fail
   go_ret2
   exact HFIN.out _ _ HE.out HB4.out
  have HE:Hid ((kd,(0:Int))=res):=HF.out _ (if_neg (by omega))
  go_wp2_with fail
  go_ret2
  exact HFIN.out _ _ HE.out HB4.out
 ·have e1:((K:Int)==1)=false:=by simp;omega
  have e2:((K:Int)==2)=false:=by simp;omega
  have e3:((K:Int)==3)=false:=by simp;omega
  have e4:((K:Int)==4)=false:=by simp;omega
  have e5:((K:Int)==5)=false:=by simp;omega
  have e6:((K:Int)==6)=true:=by subst hk;rfl
  have HC:=hid (rfStage_walk md ⟨va1,vc1,va2,vc2,va3,vc3,va4,vc4,va5,vc5⟩ tx wr HZ.out.stages (HM.out wr HBB.out))
  obtain ⟨q,hq⟩:∃q,stageIx md tx=q:=⟨_,rfl⟩
  rw [hq] at HC
  by_cases hneg:q<0
  ·have HE:Hid (((0:Int),(6:Int))=res):=by show _=_;rw [<-HG.out];subst hk;simp only [finJ,hq,if_pos hneg];simp
   clear hq hk
   go_wp2_with fail
   refine HC.out.mono ?_
   rintro e w4 ⟨rfl,hb4⟩
   have HB4:=hid (HBB.out.trans (hb4.mono HBB.out.size))
   clear hb4 HC
   go_wp2_with fail
   go_ret2
   exact HFIN.out _ _ HE.out HB4.out
  have HE:Hid (((1:Int),(0:Int))=res):=by show _=_;rw [<-HG.out];subst hk;simp only [finJ,hq,if_neg hneg];simp
  clear hq hk
  go_wp2_with fail
  refine HC.out.mono ?_
  rintro e w4 ⟨rfl,hb4⟩
  have HB4:=hid (HBB.out.trans (hb4.mono HBB.out.size))
  clear hb4 HC
  go_wp2_with fail
  go_ret2
  exact HFIN.out _ _ HE.out HB4.out
 ·have e1:((K:Int)==1)=false:=by simp;omega
  have e2:((K:Int)==2)=false:=by simp;omega
  have e3:((K:Int)==3)=false:=by simp;omega
  have e4:((K:Int)==4)=false:=by simp;omega
  have e5:((K:Int)==5)=false:=by simp;omega
  have e6:((K:Int)==6)=false:=by simp;omega
  have e7:((K:Int)==7)=true:=by subst hk;rfl
  have HC:=hid (rfStone_walk md ⟨va1,vc1,va2,vc2,va3,vc3,va4,vc4,va5,vc5⟩ tx wr HZ.out.stones (HM.out wr HBB.out))
  obtain ⟨q,hq⟩:∃q,stoneIx md tx=q:=⟨_,rfl⟩
  rw [hq] at HC
  by_cases hneg:q<0
  ·have HE:Hid (((0:Int),(6:Int))=res):=by show _=_;rw [<-HG.out];subst hk;simp only [finJ,hq,if_pos hneg];simp
   clear hq hk
   go_wp2_with fail
   refine HC.out.mono ?_
   rintro e w4 ⟨rfl,hb4⟩
   have HB4:=hid (HBB.out.trans (hb4.mono HBB.out.size))
   clear hb4 HC
   go_wp2_with fail
   go_ret2
   exact HFIN.out _ _ HE.out HB4.out
  have HE:Hid (((1:Int),(0:Int))=res):=by show _=_;rw [<-HG.out];subst hk;simp only [finJ,hq,if_neg hneg];simp
  clear hq hk
  go_wp2_with fail
  refine HC.out.mono ?_
  rintro e w4 ⟨rfl,hb4⟩
  have HB4:=hid (HBB.out.trans (hb4.mono HBB.out.size))
  clear hb4 HC
  go_wp2_with fail
  go_ret2
  exact HFIN.out _ _ HE.out HB4.out
 ·have e1:((K:Int)==1)=false:=by simp;omega
  have e2:((K:Int)==2)=false:=by simp;omega
  have e3:((K:Int)==3)=false:=by simp;omega
  have e4:((K:Int)==4)=false:=by simp;omega
  have e5:((K:Int)==5)=false:=by simp;omega
  have e6:((K:Int)==6)=false:=by simp;omega
  have e7:((K:Int)==7)=false:=by simp;omega
  have e8:((K:Int)==8)=true:=by subst hk;rfl
  have hml:m=1:=by rw [<-HLK2.out];subst hk;rfl
  obtain ⟨gg,rfl,-,-,hcell,-⟩:=HOC.out.cell (by rw [hml];omega)
  have x0:wr.cell? ⟨gg,0,none⟩=some (.int .u8 (R 0).1):=hcell 0 _ (by rw [hml];rfl)
  have j1:(0:Int)<(m:Int):=by omega
  obtain ⟨x,hx⟩:∃x,(R 0).1=x:=⟨_,rfl⟩
  obtain ⟨y,hy⟩:∃y,(R 1).1=y:=⟨_,rfl⟩
  rw [hx,hy] at HG
  rw [hx] at x0
  by_cases h1:x=1
  ·have e:(x != 1)=false:=by simp [h1]
   have HE:Hid (((1:Int),(0:Int))=res):=by show _=_;rw [<-HG.out];subst hk;simp [finJ,h1]
   clear hcell hx hy hk h1 hml
   go_wp2_with fail
   go_ret2
   exact HFIN.out _ _ HE.out HBB.out
  have e:(x != 1)=true:=by simp [h1]
  have HE:Hid (((0:Int),(171:Int))=res):=by show _=_;rw [<-HG.out];subst hk;simp [finJ,h1]
  clear hcell hx hy hk h1 hml
  go_wp2_with fail
  go_ret2
  exact HFIN.out _ _ HE.out HBB.out
 ·have e1:((K:Int)==1)=false:=by simp;omega
  have e2:((K:Int)==2)=false:=by simp;omega
  have e3:((K:Int)==3)=false:=by simp;omega
  have e4:((K:Int)==4)=false:=by simp;omega
  have e5:((K:Int)==5)=false:=by simp;omega
  have e6:((K:Int)==6)=false:=by simp;omega
  have e7:((K:Int)==7)=false:=by simp;omega
  have e8:((K:Int)==8)=false:=by simp;omega
  have e9:((K:Int)==9)=true:=by subst hk;rfl
  have HKC:Hid (K=9):=hk
  have hml:m=2:=by rw [<-HLK2.out];unfold kidsK;rw [if_neg (by omega),if_neg (by omega)]
  obtain ⟨gg,rfl,-,-,hcell,-⟩:=HOC.out.cell (by rw [hml];omega)
  have x0:wr.cell? ⟨gg,0,none⟩=some (.int .u8 (R 0).1):=hcell 0 _ (by rw [hml];rfl)
  have x1:wr.cell? ⟨gg,1,none⟩=some (.int .u8 (R 1).1):=hcell 1 _ (by rw [hml];rfl)
  have j1:(0:Int)<(m:Int):=by omega
  have j2:(1:Int)<(m:Int):=by omega
  obtain ⟨x,hx⟩:∃x,(R 0).1=x:=⟨_,rfl⟩
  obtain ⟨y,hy⟩:∃y,(R 1).1=y:=⟨_,rfl⟩
  rw [hx,hy] at HG
  rw [hx] at x0
  rw [hy] at x1
  by_cases h1:x=1
  ·have e:(x != 1)=false:=by simp [h1]
   by_cases h2:y=1
   ·have f:(y != 1)=false:=by simp [h2]
    have HE:Hid (((1:Int),(0:Int))=res):=by show _=_;rw [<-HG.out];subst hk;simp [finJ, *]
    clear hcell hx hy h1 h2 hml HKC
    go_wp2_with fail
    go_ret2
    exact HFIN.out _ _ HE.out HBB.out
   have f:(y != 1)=true:=by simp [h2]
   have HE:Hid (((0:Int),(171:Int))=res):=by show _=_;rw [<-HG.out];subst hk;simp [finJ, *]
   clear hcell hx hy h1 h2 hml HKC
   go_wp2_with fail
   go_ret2
   exact HFIN.out _ _ HE.out HBB.out
  have e:(x != 1)=true:=by simp [h1]
  have HE:Hid (((0:Int),(171:Int))=res):=by show _=_;rw [<-HG.out];subst hk;simp [finJ, *]
  clear hcell hx hy h1 hml HKC
  go_wp2_with fail
  go_ret2
  exact HFIN.out _ _ HE.out HBB.out
 ·have e1:((K:Int)==1)=false:=by simp;omega
  have e2:((K:Int)==2)=false:=by simp;omega
  have e3:((K:Int)==3)=false:=by simp;omega
  have e4:((K:Int)==4)=false:=by simp;omega
  have e5:((K:Int)==5)=false:=by simp;omega
  have e6:((K:Int)==6)=false:=by simp;omega
  have e7:((K:Int)==7)=false:=by simp;omega
  have e8:((K:Int)==8)=false:=by simp;omega
  have e9:((K:Int)==9)=false:=by simp;omega
  have e10:((K:Int)==10)=true:=by subst hk;rfl
  have HKC:Hid (K=10):=hk
  have hml:m=2:=by rw [<-HLK2.out];unfold kidsK;rw [if_neg (by omega),if_neg (by omega)]
  obtain ⟨gg,rfl,-,-,hcell,-⟩:=HOC.out.cell (by rw [hml];omega)
  have x0:wr.cell? ⟨gg,0,none⟩=some (.int .u8 (R 0).1):=hcell 0 _ (by rw [hml];rfl)
  have x1:wr.cell? ⟨gg,1,none⟩=some (.int .u8 (R 1).1):=hcell 1 _ (by rw [hml];rfl)
  have j1:(0:Int)<(m:Int):=by omega
  have j2:(1:Int)<(m:Int):=by omega
  obtain ⟨x,hx⟩:∃x,(R 0).1=x:=⟨_,rfl⟩
  obtain ⟨y,hy⟩:∃y,(R 1).1=y:=⟨_,rfl⟩
  rw [hx,hy] at HG
  rw [hx] at x0
  rw [hy] at x1
  by_cases h1:x=1
  ·have e:(x != 1)=false:=by simp [h1]
   by_cases h2:y=1
   ·have f:(y != 1)=false:=by simp [h2]
    have HE:Hid (((1:Int),(0:Int))=res):=by show _=_;rw [<-HG.out];subst hk;simp [finJ, *]
    clear hcell hx hy h1 h2 hml HKC
    go_wp2_with fail
    go_ret2
    exact HFIN.out _ _ HE.out HBB.out
   have f:(y != 1)=true:=by simp [h2]
   have HE:Hid (((0:Int),(171:Int))=res):=by show _=_;rw [<-HG.out];subst hk;simp [finJ, *]
   clear hcell hx hy h1 h2 hml HKC
   go_wp2_with fail
   go_ret2
   exact HFIN.out _ _ HE.out HBB.out
  have e:(x != 1)=true:=by simp [h1]
  have HE:Hid (((0:Int),(171:Int))=res):=by show _=_;rw [<-HG.out];subst hk;simp [finJ, *]
  clear hcell hx hy h1 hml HKC
  go_wp2_with fail
  go_ret2
  exact HFIN.out _ _ HE.out HBB.out
 ·have e1:((K:Int)==1)=false:=by simp;omega
  have e2:((K:Int)==2)=false:=by simp;omega
  have e3:((K:Int)==3)=false:=by simp;omega
  have e4:((K:Int)==4)=false:=by simp;omega
  have e5:((K:Int)==5)=false:=by simp;omega
  have e6:((K:Int)==6)=false:=by simp;omega
  have e7:((K:Int)==7)=false:=by simp;omega
  have e8:((K:Int)==8)=false:=by simp;omega
  have e9:((K:Int)==9)=false:=by simp;omega
  have e10:((K:Int)==10)=false:=by simp;omega
  have e11:((K:Int)==11)=true:=by subst hk;rfl
  have hml:m=2:=by rw [<-HLK2.out];unfold kidsK;rw [if_neg (by omega),if_neg (by omega)]
  obtain ⟨gg,rfl,-,-,hcell,-⟩:=HOC.out.cell (by rw [hml];omega)
  have x0:wr.cell? ⟨gg,0,none⟩=some (.int .u8 (R 0).1):=hcell 0 _ (by rw [hml];rfl)
  have x1:wr.cell? ⟨gg,1,none⟩=some (.int .u8 (R 1).1):=hcell 1 _ (by rw [hml];rfl)
  have j1:(0:Int)<(m:Int):=by omega
  have j2:(1:Int)<(m:Int):=by omega
  obtain ⟨x,hx⟩:∃x,(R 0).1=x:=⟨_,rfl⟩
  obtain ⟨y,hy⟩:∃y,(R 1).1=y:=⟨_,rfl⟩
  rw [hx,hy] at HG
  rw [hx] at x0
  rw [hy] at x1
  by_cases h1:x=y
  ·have e:(x != y)=false:=by simp [h1]
   have HE:Hid (((1:Int),(0:Int))=res):=by show _=_;rw [<-HG.out];subst hk;simp [finJ,h1]
   clear hcell hx hy hk h1 hml
   go_upto_region 42 with fail
   go_quiet (fail)
   go_wp2_with fail
   go_ret2
   exact HFIN.out _ _ HE.out (below_drewN HBB.out _)
  have e:(x != y)=true:=by simp [h1]
  have HE:Hid (((0:Int),(171:Int))=res):=by show _=_;rw [<-HG.out];subst hk;simp [finJ,Ne.symm h1]
  clear hcell hx hy hk h1 hml
  go_upto_region 42 with fail
  go_quiet (fail)
  go_wp2_with fail
  go_ret2
  exact HFIN.out _ _ HE.out (below_drewN HBB.out _)
 ·have e1:((K:Int)==1)=false:=by simp;omega
  have e2:((K:Int)==2)=false:=by simp;omega
  have e3:((K:Int)==3)=false:=by simp;omega
  have e4:((K:Int)==4)=false:=by simp;omega
  have e5:((K:Int)==5)=false:=by simp;omega
  have e6:((K:Int)==6)=false:=by simp;omega
  have e7:((K:Int)==7)=false:=by simp;omega
  have e8:((K:Int)==8)=false:=by simp;omega
  have e9:((K:Int)==9)=false:=by simp;omega
  have e10:((K:Int)==10)=false:=by simp;omega
  have e11:((K:Int)==11)=false:=by simp;omega
  have e12:((K:Int)==12)=true:=by subst hk;rfl
  have HKC:Hid (K=12):=hk
  have hml:m=2:=by rw [<-HLK2.out];unfold kidsK;rw [if_neg (by omega),if_neg (by omega)]
  obtain ⟨gg,rfl,-,-,hcell,-⟩:=HOC.out.cell (by rw [hml];omega)
  have x0:wr.cell? ⟨gg,0,none⟩=some (.int .u8 (R 0).1):=hcell 0 _ (by rw [hml];rfl)
  have x1:wr.cell? ⟨gg,1,none⟩=some (.int .u8 (R 1).1):=hcell 1 _ (by rw [hml];rfl)
  have j1:(0:Int)<(m:Int):=by omega
  have j2:(1:Int)<(m:Int):=by omega
  obtain ⟨x,hx⟩:∃x,(R 0).1=x:=⟨_,rfl⟩
  obtain ⟨y,hy⟩:∃y,(R 1).1=y:=⟨_,rfl⟩
  rw [hx,hy] at HG
  rw [hx] at x0
  rw [hy] at x1
  by_cases h1:x=2
  ·have e:(x != 2)=false:=by simp [h1]
   by_cases h2:y=2
   ·have f:(y != 2)=false:=by simp [h2]
    have HE:Hid (((1:Int),(0:Int))=res):=by show _=_;rw [<-HG.out];subst hk;simp [finJ, *]
    clear hcell hx hy h1 h2 hml HKC
    go_wp2_with fail
    go_ret2
    exact HFIN.out _ _ HE.out HBB.out
   have f:(y != 2)=true:=by simp [h2]
   have HE:Hid (((0:Int),(171:Int))=res):=by show _=_;rw [<-HG.out];subst hk;simp [finJ, *]
   clear hcell hx hy h1 h2 hml HKC
   go_wp2_with fail
   go_ret2
   exact HFIN.out _ _ HE.out HBB.out
  have e:(x != 2)=true:=by simp [h1]
  have HE:Hid (((0:Int),(171:Int))=res):=by show _=_;rw [<-HG.out];subst hk;simp [finJ, *]
  clear hcell hx hy h1 hml HKC
  go_wp2_with fail
  go_ret2
  exact HFIN.out _ _ HE.out HBB.out
 have e1:((K:Int)==1)=false:=by simp;omega
 have e2:((K:Int)==2)=false:=by simp;omega
 have e3:((K:Int)==3)=false:=by simp;omega
 have e4:((K:Int)==4)=false:=by simp;omega
 have e5:((K:Int)==5)=false:=by simp;omega
 have e6:((K:Int)==6)=false:=by simp;omega
 have e7:((K:Int)==7)=false:=by simp;omega
 have e8:((K:Int)==8)=false:=by simp;omega
 have e9:((K:Int)==9)=false:=by simp;omega
 have e10:((K:Int)==10)=false:=by simp;omega
 have e11:((K:Int)==11)=false:=by simp;omega
 have e12:((K:Int)==12)=false:=by simp;omega
 have HKC:Hid (12<K):=hk
 have hml:m=2:=by rw [<-HLK2.out];unfold kidsK;rw [if_neg (by omega),if_neg (by omega)]
 obtain ⟨gg,rfl,-,-,hcell,-⟩:=HOC.out.cell (by rw [hml];omega)
 have x0:wr.cell? ⟨gg,0,none⟩=some (.int .u8 (R 0).1):=hcell 0 _ (by rw [hml];rfl)
 have x1:wr.cell? ⟨gg,1,none⟩=some (.int .u8 (R 1).1):=hcell 1 _ (by rw [hml];rfl)
 have j1:(0:Int)<(m:Int):=by omega
 have j2:(1:Int)<(m:Int):=by omega
 obtain ⟨x,hx⟩:∃x,(R 0).1=x:=⟨_,rfl⟩
 obtain ⟨y,hy⟩:∃y,(R 1).1=y:=⟨_,rfl⟩
 rw [hx,hy] at HG
 rw [hx] at x0
 rw [hy] at x1
 by_cases h1:x=2
 ·have e:(x != 2)=false:=by simp [h1]
  by_cases h2:y=2
  ·have f:(y != 2)=false:=by simp [h2]
   have HE:Hid (((2:Int),(0:Int))=res):=by show _=_;rw [<-HG.out];unfold finJ;rw [if_neg (by omega),if_neg (by omega),if_neg (by omega),if_neg (by omega),if_neg (by omega),if_neg (by omega),if_neg (by omega),if_neg (by omega),if_neg (by omega),if_neg (show ¬K=12 by omega)];simp [*]
   clear hcell hx hy h1 h2 hml HKC
   go_wp2_with fail
   go_ret2
   exact HFIN.out _ _ HE.out HBB.out
  have f:(y != 2)=true:=by simp [h2]
  have HE:Hid (((0:Int),(171:Int))=res):=by show _=_;rw [<-HG.out];unfold finJ;rw [if_neg (by omega),if_neg (by omega),if_neg (by omega),if_neg (by omega),if_neg (by omega),if_neg (by omega),if_neg (by omega),if_neg (by omega),if_neg (by omega),if_neg (show ¬K=12 by omega)];simp [*]
  clear hcell hx hy h1 h2 hml HKC
  go_wp2_with fail
  go_ret2
  exact HFIN.out _ _ HE.out HBB.out
 have e:(x != 2)=true:=by simp [h1]
 have HE:Hid (((0:Int),(171:Int))=res):=by show _=_;rw [<-HG.out];unfold finJ;rw [if_neg (by omega),if_neg (by omega),if_neg (by omega),if_neg (by omega),if_neg (by omega),if_neg (by omega),if_neg (by omega),if_neg (by omega),if_neg (by omega),if_neg (show ¬K=12 by omega)];simp [*]
 clear hcell hx hy h1 hml HKC
 go_wp2_with fail
 go_ret2
 exact HFIN.out _ _ HE.out HBB.out
theorem finJ_leaf (md:ModelD) {k:Nat} (hk:1<=k/\k<=7) (n:Int) (s:ByteArray) (x y:Int):judg md (.leaf k n s)=finJ md k s x y:=by
 have h:k=1\/k=2\/k=3\/k=4\/k=5\/k=6\/k=7:=by omega
 rcases h with rfl | rfl | rfl | rfl | rfl | rfl | rfl<;>simp [judg,finJ]
 cases md.attrs[(attrIx md s).toNat]?<;>rfl
theorem rfJudged_walk (md:ModelD) (v:ModelV) (hz:md.Sml):∀(t:GT) (cs:List Value) (w:World),t.may->GIn w t.toGD cs->ModelM false (From 0) w md v ->
  Calls Tryz.prog 161 #[.agg cs.toArray,.agg (v.cs md).toArray] w fun e w'=>e=tup2 (judg md t)/\Below w.heap.size w w'
 | .leaf k n s,cs,w,hm,h,hM=>by
  have hk:1<=k/\k<=7:=by rcases hm with ⟨h1,-⟩ | ⟨h1,-⟩ | ⟨h1,-⟩ | ⟨h1,-⟩<;>omega
  have hkk:kidsK k=0:=by unfold kidsK;rw [if_pos hk.2]
  refine rfJudged_gen md v hz k n s (GT.leaf k n s).toGD cs w ⟨hk.1,by omega⟩ rfl hkk.symm h hM (fun _=>(0,0)) (judg md (.leaf k n s)) ⟨fun m hm'=>by omega,fun _=>finJ_leaf md hk n s _ _⟩ (fun m hm'=>absurd hm' (Nat.not_lt_zero _))
 | .one k x,cs,w,hm,h,hM=>by
  obtain ⟨rfl,hx⟩:=hm
  refine rfJudged_gen md v hz 8 0 ⟨#[]⟩ (GT.one 8 x).toGD cs w (by omega) rfl rfl h hM (fun _=>judg md x) (judg md (.one 8 x)) ⟨fun m hm' hne _=>?_,fun h0=>?_⟩ (fun m hm' cs W hg hM'=>?_)
  ·simp only [judg]
   rw [if_pos hne]
  ·have h1:(judg md x).2=0:=h0 0 (by decide)
   simp only [judg,finJ]
   rw [if_neg (by rw [h1];simp)]
   simp
  have hm0:m=0:=by
   have:m<1:=hm'
   omega
  subst hm0
  exact rfJudged_walk md v hz x cs W hx hg hM'
 | .two k x y,cs,w,hm,h,hM=>by
  obtain ⟨hk,hx,hy⟩:=hm
  have hkk:kidsK k=2:=by unfold kidsK;rw [if_neg (by omega),if_neg (by omega)]
  refine rfJudged_gen md v hz k 0 ⟨#[]⟩ (GT.two k x y).toGD cs w (by omega) rfl hkk.symm h hM (fun j=>if j=0 then judg md x else judg md y) (judg md (.two k x y)) ⟨fun m hm' hne hz'=>?_,fun h0=>?_⟩ (fun m hm' cs W hg hM'=>?_)
  ·rw [hkk] at hm'
   rcases (show m=0\/m=1 by omega) with rfl | rfl
   ·simp only [if_true] at hne ⊢
    simp only [judg]
    rw [if_pos hne]
   have h1:(judg md x).2=0:=hz' 0 (by omega)
   simp only [if_neg (show ¬(1:Nat)=0 by decide)] at hne ⊢
   simp only [judg]
   rw [if_neg (by rw [h1];simp),if_pos hne]
  ·rw [hkk] at h0
   have h1:(judg md x).2=0:=h0 0 (by decide)
   have h2:(judg md y).2=0:=h0 1 (by decide)
   simp only [judg,if_true,if_neg (show ¬(1:Nat)=0 by decide)]
   rw [if_neg (by rw [h1];simp),if_neg (by rw [h2];simp)]
   unfold finJ
   rw [if_neg (show ¬k<=2 by omega),if_neg (show ¬k=3 by omega),if_neg (show ¬k=4 by omega),if_neg (show ¬k=5 by omega),if_neg (show ¬k=6 by omega),if_neg (show ¬k=7 by omega),if_neg (show ¬k=8 by omega)]
  have:m<2:=hm'
  rcases (show m=0\/m=1 by omega) with rfl | rfl
  ·exact rfJudged_walk md v hz x cs W hx hg hM'
  exact rfJudged_walk md v hz y cs W hy hg hM'
theorem rfKind_walk (md:ModelD) (v:ModelV) (t:GT) (cs:List Value) (w:World) (hz:md.Sml) (hm:t.may) (hd:t.deep<=32) (hs:t.toGD.size<=60000) (h:GIn w t.toGD cs) (hM:ModelM false (From 0) w md v) :
  Calls Tryz.prog 129 #[.agg cs.toArray,.agg (v.cs md).toArray] w (fun e w'=>e=tup2 (judg md t)/\Below w.heap.size w w'):=by
 obtain ⟨n,a,l,c,rfl⟩:=gin_kt h
 obtain ⟨w0,hw0⟩:∃w0,w.alloc (.cells #[.int .u8 t.kd,.int .i64 n,.string t.tx,.slice a l c] 80)=w0:=⟨_,rfl⟩
 obtain ⟨w1,hw1⟩:∃w1,w0.alloc (.cells (v.cs md).toArray 31)=w1:=⟨_,rfl⟩
 have hz0:w0.heap.size=w.heap.size+1:=by rw [<-hw0,size_alloc]
 have hb0:Below w.heap.size w w0:=hw0▸(Below.refl _ _).alloc (Nat.le_refl _) _
 have hb01:Below w0.heap.size w0 w1:=hw1▸(Below.refl _ _).alloc (Nat.le_refl _) _
 have hb1:Below w.heap.size w w1:=hb0.trans (hb01.mono hb0.size)
 have hL:Arr w1 w.heap.size 80 [.int .u8 t.kd,.int .i64 n,.string t.tx,.slice a l c]:=hw1▸(show Arr w0 _ _ _ from hw0▸Arr.new w _ _).alloc _
 have hX:Arr w1 (w.heap.size+1) 31 (v.cs md):=by
  have:=Arr.new w0 (v.cs md) 31
  rw [hz0] at this
  exact hw1▸this
 have HW:Hid ((w.alloc (.cells #[.int .u8 t.kd,.int .i64 n,.string t.tx,.slice a l c] 80)).alloc (.cells (v.cs md).toArray 31)=w1):=by
  show _=_
  rw [hw0];exact hw1
 have HA:=hid (rfAsked_walk t _ w1 hm hd hs (h.keepB hb1))
 have HJ:=hid (fun W (hb:Below w.heap.size w W)=>rfJudged_walk md v hz t _ W hm (h.keepB hb) (hM.grow hb))
 have HX:=hid hX
 have HL:=hid hL
 have HB1:=hid hb1
 obtain ⟨z0,z1,z2,z3⟩:=box4 hL (Below.refl _ _)
 obtain ⟨r,hr⟩:∃r,judg md t=r:=⟨_,rfl⟩
 rw [hr] at HJ ⊢
 clear h hM hz hm hd hs hb0 hb01 hb1 hL hX hw0 hw1 hr
 go_enter Tryz.func129,Tryz.ntmps129
 go_upto_region 1 with fail
 rw [HW.out]
 go_wp2_with fail
 refine HA.out.mono ?_
 rintro e w2 ⟨rfl,hb2⟩
 have HB2:=hid (HB1.out.trans (hb2.mono HB1.out.size))
 clear z0 z1 z2 z3
 obtain ⟨z0,z1,z2,z3⟩:=box4 HL.out hb2
 obtain ⟨y0,y1,y2,y3,y4,y5⟩:=box6 HX.out hb2
 have HJ2:=hid (HJ.out w2 HB2.out)
 clear hb2 HA HJ
 go_wp2_with fail
 refine HJ2.out.mono ?_
 rintro e w3 ⟨rfl,hb3⟩
 have HB3:=hid (HB2.out.trans (hb3.mono HB2.out.size))
 clear hb3 HJ2
 go_wp2_with fail
 go_ret2
 exact ⟨rfl,HB3.out⟩
theorem rfTruth_walk (md:ModelD) (v:ModelV) (s:ByteArray) (w:World) (hz:md.Sml) (hM:ModelM false (From 0) w md v) :
  Calls Tryz.prog 100 #[.agg (v.cs md).toArray,.string s] w (fun e w'=>e=.returned (.bool (truthB md s))/\Below w.heap.size w w'):=by
 obtain ⟨w1,hw1⟩:∃w1,w.alloc (.cells (v.cs md).toArray 31)=w1:=⟨_,rfl⟩
 have hb1:Below w.heap.size w w1:=hw1▸(Below.refl _ _).alloc (Nat.le_refl _) _
 have hx1:Arr w1 w.heap.size 31 (v.cs md):=hw1▸Arr.new w (v.cs md) _
 have HM:=hid (fun W (hb:Below w1.heap.size w1 W)=>hM.grow (hb1.trans (hb.mono hb1.size)))
 have HX:=hid hx1
 have HB1:=hid hb1
 have HW1:=hid hw1
 have HZ:=hid hz
 have HR:=hid (rfRead_walkA s w1)
 obtain ⟨q,hq⟩:∃q,truthB md s=q:=⟨_,rfl⟩
 rw [hq]
 have HQ:=hid hq
 clear hM hb1 hx1 hw1 hz hq
 by_cases h0:s.size=0
 ·have HQ2:Hid (true=q):=by show _=_;rw [<-HQ.out,truthB,if_pos h0]
  have e0:s.toList.isEmpty=true:=by rw [nz_emp,h0];rfl
  have e1:(s.toList==[])=true:=by rw [nz_ne.2,h0];rfl
  clear h0 HR
  go_enter Tryz.func100,Tryz.ntmps100
  go_upto_region 1 with fail
  rw [HW1.out]
  go_wp2_with fail
  go_ret
  exact ⟨ret_bool HQ2.out,HB1.out⟩
 have e0:s.toList.isEmpty=false:=by rw [nz_emp];simp [h0]
 have e1:(s.toList==[])=false:=by rw [nz_ne.2];simp [h0]
 have H0:=hid h0
 clear h0
 go_enter Tryz.func100,Tryz.ntmps100
 go_upto_region 1 with fail
 rw [HW1.out]
 go_wp2_with fail
 refine HR.out.mono ?_
 intro e w2 hr
 obtain ⟨hb2,g,a,c,cs,rfl,hg,hA⟩:=hr.answer
 rcases hA.told with ⟨t,hro,rfl,rfl⟩ | ⟨hro,rfl,hc⟩
 ·obtain ⟨n,ga,gl,gc,rfl⟩:=gin_kt hg
  have hmay:=readOf_may hro
  obtain ⟨w3,hw3⟩:∃w3,w2.alloc (.cells #[.int .u8 t.kd,.int .i64 n,.string t.tx,.slice ga gl gc] 80)=w3:=⟨_,rfl⟩
  have hb3:Below w2.heap.size w2 w3:=hw3▸(Below.refl _ _).alloc (Nat.le_refl _) _
  have hL3:Arr w3 w2.heap.size 80 [.int .u8 t.kd,.int .i64 n,.string t.tx,.slice ga gl gc]:=hw3▸Arr.new w2 _ _
  have HB3:=hid (hb2.trans (hb3.mono hb2.size))
  have HKD:=hid (rfKind_walk md v t _ w3 HZ.out hmay.1 hmay.2.1 hmay.2.2 (hg.keepB hb3) (HM.out w3 HB3.out))
  obtain ⟨z0,z1,z2,z3⟩:=box4 hL3 (Below.refl _ _)
  obtain ⟨y0,y1,y2,y3,y4,y5⟩:=box6 HX.out HB3.out
  have HQ3:Hid (decide (judg md t=(1,0))=q):=by show _=_;rw [<-HQ.out,truthB_some H0.out hro]
  obtain ⟨r,hr'⟩:∃r,judg md t=r:=⟨_,rfl⟩
  rw [hr'] at HKD HQ3
  obtain ⟨r1,r2⟩:=r
  have HW3:=hid hw3
  have HBF:=hid (HB1.out.trans (HB3.out.mono HB1.out.size))
  clear hr hb2 hg hA hro hmay hb3 hL3 HR hw3 hr' HQ
  go_upto_region 4 with fail
  rw [HW3.out]
  go_wp2_with fail
  refine HKD.out.mono ?_
  rintro e w4 ⟨rfl,hb4⟩
  have HB4:=hid (HBF.out.trans (hb4.mono HBF.out.size))
  clear hb4 HKD
  by_cases h2:r2=0
  ·have i2:(r2==0)=true:=by simp [h2]
   by_cases h1:r1=1
   ·have i1:(r1==1)=true:=by simp [h1]
    have HQ2:Hid (true=q):=by show _=_;rw [<-HQ3.out,h1,h2];rfl
    clear h1 h2 HQ3
    go_wp2_with fail
    go_ret
    exact ⟨ret_bool HQ2.out,HB4.out⟩
   have i1:(r1==1)=false:=by simp [h1]
   have HQ2:Hid (false=q):=by show _=_;rw [<-HQ3.out];simp [h1]
   clear h1 h2 HQ3
   go_wp2_with fail
   go_ret
   exact ⟨ret_bool HQ2.out,HB4.out⟩
  have i2:(r2==0)=false:=by simp [h2]
  have HQ2:Hid (false=q):=by show _=_;rw [<-HQ3.out];simp [h2]
  clear h2 HQ3
  go_wp2_with fail
  go_ret
  exact ⟨ret_bool HQ2.out,HB4.out⟩
 obtain ⟨ga,gl,gc,rfl⟩:=gin_zero hg
 have HB3:=hid (HB1.out.trans ((hb2.alloc hb2.size (.cells #[.int .u8 (0:Nat),.int .i64 0,.string ⟨#[]⟩,.slice ga gl gc] 80)).mono HB1.out.size))
 have HQ2:Hid (false=q):=by show _=_;rw [<-HQ.out,truthB_none H0.out hro]
 have i2:(c != 0)=true:=by simpa using hc
 clear hr hb2 hg hA hro hc HR HQ
 go_wp2_with fail
 go_ret
 exact ⟨ret_bool HQ2.out,HB3.out⟩
theorem event_at {md:ModelD} {v:ModelV} {w:World} (h:ModelM false (From 0) w md v) {m:Nat} (hm:m<md.events.length):∃b off,v.a2=some ⟨b,off,none⟩/\b<w.heap.size/\w.cell? ⟨b,off+m,none⟩=some (.string md.events[m]):=by
 obtain ⟨_,_,b,off,hv,-,hC⟩:=flat_open (show Mem false (From 0) w (flatL 1 (fun s=>[Value.string s]) md.events) (.slice v.a2 md.events.length v.c2) from h.events)
 injection hv with e1 e2 e3
 subst e1 e3
 obtain ⟨ha,-,hbl⟩:=hC.at0 (by omega)
 have c:=hC.cell m hm 0 _ rfl
 simp only [Nat.mul_one,Nat.add_zero] at c
 exact ⟨b,off,ha,hbl,c⟩
theorem rfEvent_walk (md:ModelD) (v:ModelV) (s:ByteArray) (w:World) (hz:md.Sml) (hM:ModelM false (From 0) w md v) :
  Calls Tryz.prog 99 #[.agg (v.cs md).toArray,.string s] w (fun e w'=>e=.returned (.bool (eventB md s))/\Below w.heap.size w w'):=by
 obtain ⟨w1,hw1⟩:∃w1,w.alloc (.cells (v.cs md).toArray 31)=w1:=⟨_,rfl⟩
 have hb1:Below w.heap.size w w1:=hw1▸(Below.refl _ _).alloc (Nat.le_refl _) _
 have hx1:Arr w1 w.heap.size 31 (v.cs md):=hw1▸Arr.new w (v.cs md) _
 have HM:=hid (fun W (hb:Below w1.heap.size w1 W)=>hM.grow (hb1.trans (hb.mono hb1.size)))
 have HC:=hid (rfStage_walk md v s w1 hz.stages (hM.grow hb1))
 have HX:=hid hx1
 have HB1:=hid hb1
 have HW1:=hid hw1
 have hel:=hz.events
 obtain ⟨q,hq⟩:∃q,eventB md s=q:=⟨_,rfl⟩
 rw [hq]
 have HQ:=hid hq
 obtain ⟨i,hi⟩:∃i,stageIx md s=i:=⟨_,rfl⟩
 have hile:=stageIx_le md s
 rw [hi] at HC hile
 have HI:=hid hi
 obtain ⟨va1,vc1,va2,vc2,va3,vc3,va4,vc4,va5,vc5⟩:=v
 obtain ⟨y0,y1,y2,y3,y4,y5⟩:=box6 hx1 (Below.refl _ _)
 clear hM hb1 hx1 hw1 hz hq hi
 go_enter Tryz.func99,Tryz.ntmps99
 go_upto_region 1 with fail
 rw [HW1.out]
 go_wp2_with fail
 go_loopw [5] (fun i wr=>∃m:Nat,m<=md.events.length/\i=.int .i64 (m:Int)/\wr=w1/\Hid (∀j (_:j<m) (h:j<md.events.length),(md.events[j].toList==s.toList)=false)) (fun i _=>md.events.length-(intOf i).toNat)
 case atStart=>exact ⟨0,Nat.zero_le _,rfl,rfl,fun j hj=>absurd hj (Nat.not_lt_zero _)⟩
 obtain ⟨m,hml,rfl,rfl,HS⟩:=hrel
 by_cases hlt:m<md.events.length
 ·have i1:(m:Int)<(md.events.length:Int):=by omega
  have i2:(0:Int)<=(m:Int):=by omega
  have HML:=hid hlt
  obtain ⟨b,off,ha,hbl,c0⟩:=event_at (HM.out _ (Below.refl _ _)) hlt
  obtain rfl:va2=some ⟨b,off,none⟩:=ha
  have k3:IntKind.i64.wrap ((m:Int)+1)=(m:Int)+1:=wrap_i64 (by omega) (by omega)
  obtain ⟨sn,hsn⟩:∃sn,md.events[m]'hlt=sn:=⟨_,rfl⟩
  rw [hsn] at c0
  cases hc:sn.toList==s.toList with
  | true =>
   have HQ2:Hid (true=q):=by
    show _=_
    rw [<-HQ.out]
    exact (eventB_yes (any_hit hlt (by rw [hsn];exact hc))).symm
   clear hsn HS
   go_wp2_with fail
   go_ret
   exact ⟨ret_bool HQ2.out,HB1.out⟩
  | false =>
   have HS2:Hid (∀j (_:j<m+1) (h:j<md.events.length),(md.events[j].toList==s.toList)=false):=fun j hj h=>by
    rcases Nat.lt_or_ge j m with h1 | h1
    ·exact HS.out j h1 h
    obtain rfl:j=m:=by omega
    rw [hsn];exact hc
   clear hsn HS
   go_wp2_with fail
   refine ⟨⟨m+1,by have:=HML.out;omega,by go_num,by first | trivial | rfl,HS2⟩,by simp only [intOf];have:=HML.out;omega⟩
 obtain rfl:m=md.events.length:=by omega
 have i1:¬(md.events.length:Int)<(md.events.length:Int):=by omega
 have HH:Hid (hasB md.events s=false):=any_miss fun j hj=>HS.out j hj hj
 clear HS
 go_wp2_with fail
 refine HC.out.mono ?_
 rintro e w2 ⟨rfl,hb2⟩
 have HB2:=hid (HB1.out.trans (hb2.mono HB1.out.size))
 have HB12:=hid hb2
 clear y0 y1 y2 y3 y4 y5 HC hb2
 obtain ⟨y0,y1,y2,y3,y4,y5⟩:=box6 HX.out HB12.out
 by_cases hneg:i<0
 ·have HQ2:Hid (false=q):=by show _=_;rw [<-HQ.out,eventB_neg HH.out (by rw [HI.out];exact hneg)]
  have i1:¬(0:Int)<=i:=by omega
  go_wp2_with fail
  go_ret
  exact ⟨ret_bool HQ2.out,HB2.out⟩
 obtain ⟨m,rfl⟩:∃m:Nat,i=m:=⟨i.toNat,by omega⟩
 have hml:m<md.stages.length:=by omega
 have i1:(0:Int)<=(m:Int):=by omega
 have i2:(m:Int)<(md.stages.length:Int):=by omega
 obtain ⟨b,off,ha,hbl,d1,e1,d2,e2,-,-,-,-,-,-,c4,-,-⟩:=stage_at (HM.out w2 HB12.out) hml
 obtain rfl:va3=some ⟨b,off,none⟩:=ha
 obtain ⟨x,hx⟩:∃x,md.stages[m].role=x:=⟨_,rfl⟩
 have HQ2:Hid (decide (x.size≠0)=q):=by show _=_;rw [<-HQ.out,eventB_at HH.out HI.out hml,hx]
 rw [hx] at c4
 clear hx HQ HI HH hile hml
 rcases Nat.eq_zero_or_pos x.size with h0 | h0
 ·have e0:(x.toList != [])=false:=by rw [nz_ne.1];simp [h0]
  have e1':x.toList.isEmpty=true:=by rw [nz_emp];simp [h0]
  have HQ3:Hid (false=q):=by show _=_;rw [<-HQ2.out];simp [h0]
  clear h0 HQ2
  go_wp2_with fail
  go_ret
  exact ⟨ret_bool HQ3.out,HB2.out⟩
 have h0':x.size≠0:=by omega
 have e0:(x.toList != [])=true:=by rw [nz_ne.1];exact decide_eq_true h0'
 have e1':x.toList.isEmpty=false:=by rw [nz_emp];exact decide_eq_false h0'
 have HQ3:Hid (true=q):=by show _=_;rw [<-HQ2.out];exact (decide_eq_true h0').symm
 clear h0 h0' HQ2
 go_wp2_with fail
 go_ret
 exact ⟨ret_bool HQ3.out,HB2.out⟩
theorem rfSentry_walk (md:ModelD) (v:ModelV) (s:SentryD) (w:World) (hz:md.Sml) (hM:ModelM false (From 0) w md v) :
  Calls Tryz.prog 69 #[.agg (v.cs md).toArray,senV s] w (fun e w'=>e=.returned (.bool (sentryB md s))/\Below w.heap.size w w'):=by
 obtain ⟨on,name,cond⟩:=s
 rw [sentryB_eq]
 obtain ⟨w0,hw0⟩:∃w0,w.alloc (.cells (v.cs md).toArray 31)=w0:=⟨_,rfl⟩
 obtain ⟨w1,hw1⟩:∃w1,w0.alloc (.cells #[.int .u8 on,.string name,.string cond] 35)=w1:=⟨_,rfl⟩
 have hz0:w0.heap.size=w.heap.size+1:=by rw [<-hw0,size_alloc]
 have hb0:Below w.heap.size w w0:=hw0▸(Below.refl _ _).alloc (Nat.le_refl _) _
 have hb01:Below w0.heap.size w0 w1:=hw1▸(Below.refl _ _).alloc (Nat.le_refl _) _
 have hb1:Below w.heap.size w w1:=hb0.trans (hb01.mono hb0.size)
 have hX:Arr w1 w.heap.size 31 (v.cs md):=hw1▸(show Arr w0 _ _ _ from hw0▸Arr.new w _ _).alloc _
 have hS:Arr w1 (w.heap.size+1) 35 [.int .u8 on,.string name,.string cond]:=by
  have:=Arr.new w0 [.int .u8 on,.string name,.string cond] 35
  rw [hz0] at this
  exact hw1▸this
 have HW:Hid ((w.alloc (.cells (v.cs md).toArray 31)).alloc (.cells #[.int .u8 on,.string name,.string cond] 35)=w1):=by
  show _=_
  rw [hw0];exact hw1
 have box3:∀W,Below w1.heap.size w1 W->W.cell? ⟨w.heap.size+1,0,none⟩=some (.int .u8 on)/\W.cell? ⟨w.heap.size+1,1,none⟩=some (.string name)/\W.cell? ⟨w.heap.size+1,2,none⟩=some (.string cond):=fun W hb =>
  ⟨cellBelow2 hb (hS.cell (j:=0) (by simp)),cellBelow2 hb (hS.cell (j:=1) (by simp)),cellBelow2 hb (hS.cell (j:=2) (by simp))⟩
 have HT:=hid (fun W (hb:Below w1.heap.size w1 W)=>rfTruth_walk md v cond W hz (hM.grow (hb1.trans (hb.mono hb1.size))))
 have HE:=hid (rfEvent_walk md v name w1 hz (hM.grow hb1))
 have HSt:=hid (rfStage_walk md v name w1 hz.stages (hM.grow hb1))
 have HSo:=hid (rfStone_walk md v name w1 hz.stones (hM.grow hb1))
 have HX:=hid hX
 have HB1:=hid hb1
 have HB3:=hid box3
 obtain ⟨y0,y1,y2,y3,y4,y5⟩:=box6 hX (Below.refl _ _)
 obtain ⟨z0,z1,z2⟩:=box3 w1 (Below.refl _ _)
 obtain ⟨T,hT⟩:∃T,truthB md cond=T:=⟨_,rfl⟩
 simp only [hT] at HT ⊢
 obtain ⟨q,hq⟩:∃q,thereB md ⟨on,name,cond⟩=q:=⟨_,rfl⟩
 rw [hq]
 have HQ:=hid hq
 clear hM hz hb0 hb01 hb1 hX hS hw0 hw1 hz0 hT hq box3
 simp only [senV]
 have:on=0\/on=1\/on=2\/on=3\/on=4\/on=5\/(on≠0/\on≠1/\on≠2/\on≠3/\on≠4/\on≠5):=by omega
 rcases this with rfl | rfl | rfl | rfl | rfl | rfl | ⟨n0,n1,n2,n3,n4,n5⟩
 ·rcases nz_list (s:=name) with ⟨h1,h2⟩ | ⟨h1,h2⟩
  ·have HQ2:Hid (q=true):=by
    show _=_
    rw [<-HQ.out]
    simp only [thereB,if_true,size_zero.2 h1,decide_true]
   have e0:(name.toList != [])=false:=by rw [nz_ne.1];simp [size_zero.2 h1]
   clear HQ h1 HE HSt HSo
   go_enter Tryz.func69,Tryz.ntmps69
   go_upto_region 1 with fail
   rw [HW.out]
   go_wp2_with fail
   refine (HT.out _ (Below.refl _ _)).mono ?_
   rintro e w4 ⟨rfl,hb4⟩
   have HB4:=hid (HB1.out.trans (hb4.mono HB1.out.size))
   clear hb4 HT
   go_wp2_with fail
   go_ret
   exact ⟨ret_bool (by rw [HQ2.out];simp),HB4.out⟩
  have HQ2:Hid (q=false):=by
   show _=_
   rw [<-HQ.out]
   have hz0:¬name.size=0:=fun h=>h1 (size_zero.1 h)
   simp only [thereB,if_true,hz0,decide_false]
  have e0:(name.toList != [])=true:=by
   rw [nz_ne.1]
   have hz0:¬name.size=0:=fun h=>h1 (size_zero.1 h)
   simp [hz0]
  clear HQ h1 HE HSt HSo
  go_enter Tryz.func69,Tryz.ntmps69
  go_upto_region 1 with fail
  rw [HW.out]
  go_wp2_with fail
  go_ret
  exact ⟨ret_bool (by rw [HQ2.out];simp),HB1.out⟩
 ·obtain ⟨z,hzq⟩:∃z,eventB md name=z:=⟨_,rfl⟩
  have HQ1:Hid (q=z):=by
   show _=_
   rw [<-HQ.out,<-hzq]
   simp [thereB]
  rw [hzq] at HE
  clear HQ hzq HSt HSo
  go_enter Tryz.func69,Tryz.ntmps69
  go_upto_region 1 with fail
  rw [HW.out]
  go_wp2_with fail
  refine HE.out.mono ?_
  rintro e w2 ⟨rfl,hb2⟩
  have HB2:=hid (HB1.out.trans (hb2.mono HB1.out.size))
  have HB12:=hid hb2
  clear y0 y1 y2 y3 y4 y5 z0 z1 z2 HE
  obtain ⟨y0,y1,y2,y3,y4,y5⟩:=box6 HX.out hb2
  obtain ⟨z0,z1,z2⟩:=HB3.out w2 hb2
  clear hb2
  cases z with
  | true =>
   have HQ2:Hid (q=true):=HQ1.out
   go_wp2_with fail
   refine (HT.out _ HB12.out).mono ?_
   rintro e w4 ⟨rfl,hb4⟩
   have HB4:=hid (HB2.out.trans (hb4.mono HB2.out.size))
   clear hb4 HT
   go_wp2_with fail
   go_ret
   exact ⟨ret_bool (by rw [HQ2.out];simp),HB4.out⟩
  | false =>
   have HQ2:Hid (q=false):=HQ1.out
   go_wp2_with fail
   go_ret
   exact ⟨ret_bool (by rw [HQ2.out];simp),HB2.out⟩
 ·obtain ⟨z,hzq⟩:∃z,stageIx md name=z:=⟨_,rfl⟩
  have HQ1:Hid (q=decide (0<=z)):=by
   show _=_
   rw [<-HQ.out,<-hzq]
   simp [thereB]
  rw [hzq] at HSt
  clear HQ hzq HE HSo
  go_enter Tryz.func69,Tryz.ntmps69
  go_upto_region 1 with fail
  rw [HW.out]
  go_wp2_with fail
  refine HSt.out.mono ?_
  rintro e w2 ⟨rfl,hb2⟩
  have HB2:=hid (HB1.out.trans (hb2.mono HB1.out.size))
  have HB12:=hid hb2
  clear y0 y1 y2 y3 y4 y5 z0 z1 z2 HSt
  obtain ⟨y0,y1,y2,y3,y4,y5⟩:=box6 HX.out hb2
  obtain ⟨z0,z1,z2⟩:=HB3.out w2 hb2
  clear hb2
  by_cases hz0:0<=z
  ·have hzn:¬z<0:=by omega
   have HQ2:Hid (q=true):=by show _=_;rw [HQ1.out];simp [hz0]
   go_wp2_with fail
   refine (HT.out _ HB12.out).mono ?_
   rintro e w4 ⟨rfl,hb4⟩
   have HB4:=hid (HB2.out.trans (hb4.mono HB2.out.size))
   clear hb4 HT
   go_wp2_with fail
   go_ret
   exact ⟨ret_bool (by rw [HQ2.out];simp),HB4.out⟩
  have hzn:z<0:=by omega
  have HQ2:Hid (q=false):=by show _=_;rw [HQ1.out];simp [hz0]
  go_wp2_with fail
  go_ret
  exact ⟨ret_bool (by rw [HQ2.out];simp),HB2.out⟩
 ·obtain ⟨z,hzq⟩:∃z,stageIx md name=z:=⟨_,rfl⟩
  have HQ1:Hid (q=decide (0<=z)):=by
   show _=_
   rw [<-HQ.out,<-hzq]
   simp [thereB]
  rw [hzq] at HSt
  clear HQ hzq HE HSo
  go_enter Tryz.func69,Tryz.ntmps69
  go_upto_region 1 with fail
  rw [HW.out]
  go_wp2_with fail
  refine HSt.out.mono ?_
  rintro e w2 ⟨rfl,hb2⟩
  have HB2:=hid (HB1.out.trans (hb2.mono HB1.out.size))
  have HB12:=hid hb2
  clear y0 y1 y2 y3 y4 y5 z0 z1 z2 HSt
  obtain ⟨y0,y1,y2,y3,y4,y5⟩:=box6 HX.out hb2
  obtain ⟨z0,z1,z2⟩:=HB3.out w2 hb2
  clear hb2
  by_cases hz0:0<=z
  ·have hzn:¬z<0:=by omega
   have HQ2:Hid (q=true):=by show _=_;rw [HQ1.out];simp [hz0]
   go_wp2_with fail
   refine (HT.out _ HB12.out).mono ?_
   rintro e w4 ⟨rfl,hb4⟩
   have HB4:=hid (HB2.out.trans (hb4.mono HB2.out.size))
   clear hb4 HT
   go_wp2_with fail
   go_ret
   exact ⟨ret_bool (by rw [HQ2.out];simp),HB4.out⟩
  have hzn:z<0:=by omega
  have HQ2:Hid (q=false):=by show _=_;rw [HQ1.out];simp [hz0]
  go_wp2_with fail
  go_ret
  exact ⟨ret_bool (by rw [HQ2.out];simp),HB2.out⟩
 ·obtain ⟨z,hzq⟩:∃z,stoneIx md name=z:=⟨_,rfl⟩
  have HQ1:Hid (q=decide (0<=z)):=by
   show _=_
   rw [<-HQ.out,<-hzq]
   simp [thereB]
  rw [hzq] at HSo
  clear HQ hzq HE HSt
  go_enter Tryz.func69,Tryz.ntmps69
  go_upto_region 1 with fail
  rw [HW.out]
  go_wp2_with fail
  refine HSo.out.mono ?_
  rintro e w2 ⟨rfl,hb2⟩
  have HB2:=hid (HB1.out.trans (hb2.mono HB1.out.size))
  have HB12:=hid hb2
  clear y0 y1 y2 y3 y4 y5 z0 z1 z2 HSo
  obtain ⟨y0,y1,y2,y3,y4,y5⟩:=box6 HX.out hb2
  obtain ⟨z0,z1,z2⟩:=HB3.out w2 hb2
  clear hb2
  by_cases hz0:0<=z
  ·have hzn:¬z<0:=by omega
   have HQ2:Hid (q=true):=by show _=_;rw [HQ1.out];simp [hz0]
   go_wp2_with fail
   refine (HT.out _ HB12.out).mono ?_
   rintro e w4 ⟨rfl,hb4⟩
   have HB4:=hid (HB2.out.trans (hb4.mono HB2.out.size))
   clear hb4 HT
   go_wp2_with fail
   go_ret
   exact ⟨ret_bool (by rw [HQ2.out];simp),HB4.out⟩
  have hzn:z<0:=by omega
  have HQ2:Hid (q=false):=by show _=_;rw [HQ1.out];simp [hz0]
  go_wp2_with fail
  go_ret
  exact ⟨ret_bool (by rw [HQ2.out];simp),HB2.out⟩
 ·obtain ⟨z,hzq⟩:∃z,stoneIx md name=z:=⟨_,rfl⟩
  have HQ1:Hid (q=decide (0<=z)):=by
   show _=_
   rw [<-HQ.out,<-hzq]
   simp [thereB]
  rw [hzq] at HSo
  clear HQ hzq HE HSt
  go_enter Tryz.func69,Tryz.ntmps69
  go_upto_region 1 with fail
  rw [HW.out]
  go_wp2_with fail
  refine HSo.out.mono ?_
  rintro e w2 ⟨rfl,hb2⟩
  have HB2:=hid (HB1.out.trans (hb2.mono HB1.out.size))
  have HB12:=hid hb2
  clear y0 y1 y2 y3 y4 y5 z0 z1 z2 HSo
  obtain ⟨y0,y1,y2,y3,y4,y5⟩:=box6 HX.out hb2
  obtain ⟨z0,z1,z2⟩:=HB3.out w2 hb2
  clear hb2
  by_cases hz0:0<=z
  ·have hzn:¬z<0:=by omega
   have HQ2:Hid (q=true):=by show _=_;rw [HQ1.out];simp [hz0]
   go_wp2_with fail
   refine (HT.out _ HB12.out).mono ?_
   rintro e w4 ⟨rfl,hb4⟩
   have HB4:=hid (HB2.out.trans (hb4.mono HB2.out.size))
   clear hb4 HT
   go_wp2_with fail
   go_ret
   exact ⟨ret_bool (by rw [HQ2.out];simp),HB4.out⟩
  have hzn:z<0:=by omega
  have HQ2:Hid (q=false):=by show _=_;rw [HQ1.out];simp [hz0]
  go_wp2_with fail
  go_ret
  exact ⟨ret_bool (by rw [HQ2.out];simp),HB2.out⟩
 have HQ2:Hid (q=false):=by
  show _=_
  rw [<-HQ.out]
  simp [thereB,n0,n1,n2,n3,n4,n5]
 have e0:(on==0)=false:=by simpa using n0
 have e1:(on==1)=false:=by simpa using n1
 have e2:(on==2)=false:=by simpa using n2
 have e3:(on==3)=false:=by simpa using n3
 have e4:(on==4)=false:=by simpa using n4
 have e5:(on==5)=false:=by simpa using n5
 clear HQ HE HSt HSo n0 n1 n2 n3 n4 n5
 go_enter Tryz.func69,Tryz.ntmps69
 go_upto_region 1 with fail
 rw [HW.out]
 go_wp2_with fail
 go_ret
 exact ⟨ret_bool (by rw [HQ2.out];simp),HB1.out⟩
end Go.Proofs.YtfbbkmdhnkmonaaGreatDoor
