/- Proved, each under the conditions that it names: package guard: made: what it comes to; plain; package guard: made, at some kinds; package guard: judged: what a node's kind is. -/
import Derived.Test.YtfbbkmdhnkmonaaGreatDoorT06
set_option maxRecDepth 100000
set_option maxHeartbeats 32000000
namespace Go.Proofs.YtfbbkmdhnkmonaaGreatDoor
open Go.RowKit
theorem elemNode:Elem Tryz.prog 140 133 1 16:=⟨Tryz.underlying140,⟨.nilIface,by kernel_rfl,rfl⟩,by omega,Tryz.sizeOf133⟩
theorem NodeV.one {t:GT} {v:Value} (h:NodeV t v):v.oneCell'=true:=by
 cases t with
 | leaf=>obtain ⟨_,_,rfl⟩:=h;rfl
 | one=>obtain ⟨_,rfl,_⟩:=h;rfl
 | two=>obtain ⟨_,_,_,_,_,_,_,rfl,_⟩:=h;rfl
theorem NodeV.iface {t:GT} {v:Value} (h:NodeV t v):∃T p,v=.iface T p:=by
 cases t with
 | leaf=>obtain ⟨_,_,rfl⟩:=h;exact ⟨_,_,rfl⟩
 | one=>obtain ⟨_,rfl,_⟩:=h;exact ⟨_,_,rfl⟩
 | two=>obtain ⟨_,_,_,_,_,_,_,rfl,_⟩:=h;exact ⟨_,_,rfl⟩
def MadeEnd (g:GD) (w:World) (e:Ending) (w':World):Prop:=Below w.heap.size w w'/\∃v b,e=.returned (.tuple #[v,.bool b])/\(b=true->∃t:GT,g=t.toGD/\t.may/\NodeV t v)/\((∃t:GT,g=t.toGD/\t.may)->b=true)
def KidsV (g:GD) (m:Nat) (ts:List GT) (vs:List Value):Prop:=ts.length=m/\vs.length=m/\g.kids.take m=ts.map GT.toGD/\(∀t∈ts,t.may)/\∀j (h:j<ts.length) (h2:j<vs.length),NodeV ts[j] vs[j]
theorem KidsV.snoc {g:GD} {m:Nat} {ts:List GT} {vs:List Value} (h:KidsV g m ts vs) (hm:m<g.kids.length) {t:GT} {v:Value} (ht:g.kids[m]=t.toGD) (hmay:t.may) (hv:NodeV t v):KidsV g (m+1) (ts++[t]) (vs++[v]):=by
 obtain ⟨h1,h2,h3,h4,h5⟩:=h
 refine ⟨by simp [h1],by simp [h2],?_,?_,?_⟩
 ·rw [List.take_succ_eq_append_getElem hm,h3,ht,List.map_append];rfl
 ·intro t' ht'
  rcases List.mem_append.1 ht' with h | h
  ·exact h4 t' h
  rw [List.mem_singleton.1 h];exact hmay
 intro j hj hj2
 rw [List.length_append,List.length_singleton] at hj
 rcases Nat.lt_or_ge j m with hlt | hge
 ·rw [List.getElem_append_left (by omega),List.getElem_append_left (by omega)]
  exact h5 j _ _
 obtain rfl:j=m:=by omega
 simp [h1,h2,hv]
theorem kids_no {g:GD} {m:Nat} (hm:m<g.kids.length) (hno:¬∃t:GT,g.kids[m]=t.toGD/\t.may):¬∃t:GT,g=t.toGD/\t.may:=by
 rintro ⟨t,rfl,hmay⟩
 refine hno ?_
 cases t with
 | leaf=>simp [GT.toGD,GD.kids] at hm
 | one k a =>
  obtain rfl:m=0:=by simpa [GT.toGD,GD.kids] using hm
  exact ⟨a,rfl,hmay.2⟩
 | two k a b =>
  have hm:m<2:=by simpa [GT.toGD,GD.kids] using hm
  match m,hm with
  | 0,_=>exact ⟨a,rfl,hmay.2.1⟩
  | 1,_=>exact ⟨b,rfl,hmay.2.2⟩
theorem len_two {α:Type} {l:List α} (h:l.length=2):∃a b,l=[a,b]:=by
 match l,h with
 | [a,b],_=>exact ⟨a,b,rfl⟩
section
variable {k:Nat} {n:Int} {s:ByteArray} {kids:List GD} {b:Bool}
theorem made_leaf (hk:1<=k/\k<=7) (a:Option Addr) (c:Nat) (hb:b=true↔kids.length=0/\(GT.leaf k n s).may) :
  (b=true->∃t:GT,GD.node k n s kids=t.toGD/\t.may/\NodeV t (.iface 138 (.agg #[.int .u8 k,.int .i64 n,.string s,.slice a kids.length c])))/\((∃t:GT,GD.node k n s kids=t.toGD/\t.may)->b=true):=by
 refine ⟨fun h=>?_,fun ⟨t,h1,h2⟩=>hb.2 ?_⟩
 ·obtain ⟨h1,h2⟩:=hb.1 h
  obtain rfl:=List.eq_nil_of_length_eq_zero h1
  exact ⟨.leaf k n s,rfl,h2,a,c,rfl⟩
 cases t with
 | leaf k' n' s' =>
  simp only [GT.toGD,GD.node.injEq] at h1
  obtain ⟨rfl,rfl,rfl,rfl⟩:=h1
  exact ⟨rfl,h2⟩
 | one k' a' =>
  simp only [GT.toGD,GD.node.injEq] at h1
  have:=h2.1
  omega
 | two k' a' b' =>
  simp only [GT.toGD,GD.node.injEq] at h1
  have:=h2.1
  omega
theorem made_one {ts:List GT} {vs:List Value} {v:Value} (hkv:KidsV (.node 8 n s kids) kids.length ts vs) (hv:kids.length=1->vs[0]? = some v) (hb:b=true↔kids.length=1/\n=0/\s=⟨#[]⟩) :
  (b=true->∃t:GT,GD.node 8 n s kids=t.toGD/\t.may/\NodeV t (.iface 209 (.agg #[v])))/\((∃t:GT,GD.node 8 n s kids=t.toGD/\t.may)->b=true):=by
 obtain ⟨q1,q2,h3,h4,h5⟩:=hkv
 refine ⟨fun h=>?_,fun ⟨t,h1,h2⟩=>hb.2 ?_⟩
 ·obtain ⟨e1,rfl,rfl⟩:=hb.1 h
  rw [e1] at q1 q2
  obtain ⟨t,rfl⟩:=List.length_eq_one_iff.1 q1
  obtain ⟨u,rfl⟩:=List.length_eq_one_iff.1 q2
  have hu:u=v:=by simpa using hv e1
  subst hu
  have h3:kids.take kids.length=[t.toGD]:=h3
  rw [List.take_length] at h3
  subst h3
  exact ⟨.one 8 t,rfl,⟨rfl,h4 t (by simp)⟩,u,rfl,h5 0 (by simp) (by simp)⟩
 cases t with
 | leaf k' n' s' =>
  clear hv q1 q2 h3 h4 h5 hb
  simp only [GT.toGD,GD.node.injEq] at h1
  obtain ⟨rfl,-,-,-⟩:=h1
  rcases h2 with ⟨h,_⟩ | ⟨h,_⟩ | ⟨h,_⟩ | ⟨h,_⟩<;>omega
 | one k' a' =>
  simp only [GT.toGD,GD.node.injEq] at h1
  obtain ⟨-,e2,e3,e4⟩:=h1
  exact ⟨by rw [e4];rfl,e2,e3⟩
 | two k' a' b' =>
  simp only [GT.toGD,GD.node.injEq] at h1
  have:=h2.1
  omega
theorem made_pair {ts:List GT} {vs:List Value} {v u:Value} (hk:9<=k/\k<=15) (a:Option Addr) (c:Nat) (hkv:KidsV (.node k n s kids) kids.length ts vs) (hv:kids.length=2->vs[0]? = some v/\vs[1]? = some u) (hb:b=true↔kids.length=2/\n=0/\s=⟨#[]⟩) :
  (b=true->∃t:GT,GD.node k n s kids=t.toGD/\t.may/\NodeV t (.iface 211 (.agg #[.int .u8 k,.int .i64 n,.string s,.slice a kids.length c,v,u])))/\((∃t:GT,GD.node k n s kids=t.toGD/\t.may)->b=true):=by
 obtain ⟨q1,q2,h3,h4,h5⟩:=hkv
 refine ⟨fun h=>?_,fun ⟨t,h1,h2⟩=>hb.2 ?_⟩
 ·obtain ⟨e1,rfl,rfl⟩:=hb.1 h
  rw [e1] at q1 q2
  obtain ⟨t,t2,rfl⟩:=len_two q1
  obtain ⟨x,y,rfl⟩:=len_two q2
  have hu:x=v/\y=u:=by simpa using hv e1
  obtain ⟨rfl,rfl⟩:=hu
  have h3:kids.take kids.length=[t.toGD,t2.toGD]:=h3
  rw [List.take_length] at h3
  subst h3
  exact ⟨.two k t t2,rfl,⟨hk,h4 t (by simp),h4 t2 (by simp)⟩,_,_,_,_,_,x,y,rfl,h5 0 (by simp) (by simp),h5 1 (by simp) (by simp)⟩
 cases t with
 | leaf k' n' s' =>
  clear hv q1 q2 h3 h4 h5 hb
  simp only [GT.toGD,GD.node.injEq] at h1
  obtain ⟨rfl,-,-,-⟩:=h1
  rcases h2 with ⟨h,_⟩ | ⟨h,_⟩ | ⟨h,_⟩ | ⟨h,_⟩<;>omega
 | one k' a' =>
  simp only [GT.toGD,GD.node.injEq] at h1
  have:=h2.1
  omega
 | two k' a' b' =>
  simp only [GT.toGD,GD.node.injEq] at h1
  obtain ⟨-,e2,e3,e4⟩:=h1
  exact ⟨by rw [e4];rfl,e2,e3⟩
theorem made_none (hno:¬(1<=k/\k<=7)/\¬(k=8/\kids.length=1)/\¬((9<=k/\k<=15)/\kids.length=2)):¬∃t:GT,GD.node k n s kids=t.toGD/\t.may:=by
 rintro ⟨t,h1,h2⟩
 cases t with
 | leaf k' n' s' =>
  simp only [GT.toGD,GD.node.injEq] at h1
  obtain ⟨rfl,rfl,rfl,rfl⟩:=h1
  rcases h2 with ⟨h,_⟩ | ⟨h,_⟩ | ⟨h,_⟩ | ⟨h,_⟩<;>omega
 | one k' a' =>
  simp only [GT.toGD,GD.node.injEq] at h1
  obtain ⟨rfl,rfl,rfl,rfl⟩:=h1
  exact hno.2.1 ⟨h2.1,rfl⟩
 | two k' a' b' =>
  simp only [GT.toGD,GD.node.injEq] at h1
  obtain ⟨rfl,rfl,rfl,rfl⟩:=h1
  exact hno.2.2 ⟨h2.1,rfl⟩
end
section
variable {k:Nat} {n:Int} {s:ByteArray} {g:GD} {b:Bool} {l:Nat}
theorem made_leafG (heg:g=.node k n s g.kids) (hl:g.kids.length=l) (hk:1<=k/\k<=7) (a:Option Addr) (c:Nat) (hb:b=true↔l=0/\(GT.leaf k n s).may) :
  (b=true->∃t:GT,g=t.toGD/\t.may/\NodeV t (.iface 138 (.agg #[.int .u8 k,.int .i64 n,.string s,.slice a l c])))/\((∃t:GT,g=t.toGD/\t.may)->b=true):=by
 subst hl
 have h:=made_leaf (kids:=g.kids) hk a c hb
 rw [<-heg] at h
 exact h
theorem made_oneG {ts:List GT} {vs:List Value} {v:Value} (heg:g=.node 8 n s g.kids) (hl:g.kids.length=l) (hkv:KidsV g l ts vs) (hv:l=1->vs[0]? = some v) (hb:b=true↔l=1/\n=0/\s=⟨#[]⟩) :
  (b=true->∃t:GT,g=t.toGD/\t.may/\NodeV t (.iface 209 (.agg #[v])))/\((∃t:GT,g=t.toGD/\t.may)->b=true):=by
 subst hl
 have h:=made_one (kids:=g.kids) (n:=n) (s:=s) (by rw [<-heg];exact hkv) hv hb
 rw [<-heg] at h
 exact h
theorem made_pairG {ts:List GT} {vs:List Value} {v u:Value} (heg:g=.node k n s g.kids) (hl:g.kids.length=l) (hk:9<=k/\k<=15) (a:Option Addr) (c:Nat) (hkv:KidsV g l ts vs) (hv:l=2->vs[0]? = some v/\vs[1]? = some u) (hb:b=true↔l=2/\n=0/\s=⟨#[]⟩) :
  (b=true->∃t:GT,g=t.toGD/\t.may/\NodeV t (.iface 211 (.agg #[.int .u8 k,.int .i64 n,.string s,.slice a l c,v,u])))/\((∃t:GT,g=t.toGD/\t.may)->b=true):=by
 subst hl
 have h:=made_pair (kids:=g.kids) (n:=n) (s:=s) hk a c (by rw [<-heg];exact hkv) hv hb
 rw [<-heg] at h
 exact h
theorem made_noneG {v:Value} (heg:g=.node k n s g.kids) (hl:g.kids.length=l) (hno:¬(1<=k/\k<=7)/\¬(k=8/\l=1)/\¬((9<=k/\k<=15)/\l=2)):(false=true->∃t:GT,g=t.toGD/\t.may/\NodeV t v)/\((∃t:GT,g=t.toGD/\t.may)->false=true):=by
 subst hl
 have h:=made_none (kids:=g.kids) (n:=n) (s:=s) hno
 rw [<-heg] at h
 exact ⟨fun h=>absurd h (by decide),fun h'=>absurd h' h⟩
end
end Go.Proofs.YtfbbkmdhnkmonaaGreatDoor
namespace Go.Proofs.YtfbbkmdhnkmonaaGreatDoor
open Go.RowKit
theorem box4 {w w':World} {t:TypeId} {g:Nat} {a b c d:Value} (h:Arr w g t [a,b,c,d]) (hb:Below w.heap.size w w'):w'.cell? ⟨g,0,none⟩=some a/\w'.cell? ⟨g,1,none⟩=some b/\w'.cell? ⟨g,2,none⟩=some c/\w'.cell? ⟨g,3,none⟩=some d :=
 ⟨cellBelow2 hb (h.cell (j:=0) (by simp)),cellBelow2 hb (h.cell (j:=1) (by simp)),cellBelow2 hb (h.cell (j:=2) (by simp)),cellBelow2 hb (h.cell (j:=3) (by simp))⟩
theorem nz_list {s:ByteArray}:(s=⟨#[]⟩/\(s.toList==[])=true)\/(s≠⟨#[]⟩/\(s.toList==[])=false):=by
 by_cases h:s=⟨#[]⟩
 ·exact .inl ⟨h,by rw [h,Go.ByteArray.toList_eq];rfl⟩
 refine .inr ⟨h,?_⟩
 rw [Go.ByteArray.toList_eq]
 have:¬s.data.toList=[]:=fun he=>h (ByteArray.ext (Array.ext' he))
 simpa using this
def MadeIH (d:Nat):Prop:=∀(g:GD) (cs:List Value) (w:World),g.deep<=d->g.inR->g.size<=1000000->GIn w g cs->Calls Tryz.prog 119 #[.agg cs.toArray] w (MadeEnd g w)
theorem made_c1 {d:Nat} (ih:MadeIH d) (g:GD) (cs:List Value) (w:World) (hd:g.deep<=d+1) (hr:g.inR) (hz:g.size<=1000000) (h:GIn w g cs) (hC:∀k n s l,g=.node k n s l->k=1):Calls Tryz.prog 119 #[.agg cs.toArray] w (MadeEnd g w):=by
 have HIH:=hid ih
 obtain ⟨k,n,sx,a,c,b,off,heg,rfl,hl,-,hb,hk⟩:=h.kid
 have HK:=hid hk
 have hkids:∀x∈g.kids,x.deep<=d/\x.inR/\x.size<=1000000:=fun x hx=>by
  have h1:=deeps_mem hx
  have h2:=sizes_mem hx
  have h3:=g.deep_eq
  rw [heg] at hr hz
  simp only [GD.inR,GD.size] at hr hz
  exact ⟨by omega,inRs_mem hx hr.2,by omega⟩
 have hlz:g.kids.length<=1000000:=by
  rw [heg] at hz
  simp only [GD.size] at hz
  have:=sizes_len g.kids
  omega
 have hnr:n<=9223372036854775807:=by
  rw [heg] at hr
  simp only [GD.inR] at hr
  exact hr.1.2
 have HKI:=hid hkids
 have HEG:=hid heg
 have HKK:=hid (hC k n sx g.kids heg)
 have HNR:=hid hnr
 have HSZ:Hid (sx.size<=1000000):=by
  show _<=_
  rw [heg] at hz
  simp only [GD.size] at hz
  omega
 obtain ⟨l,hl'⟩:∃l,g.kids.length=l:=⟨_,rfl⟩
 rw [hl'] at hb hl hlz ⊢
 have HL:=hid hl'
 obtain ⟨w1,hw1⟩:∃w1,w.alloc (.cells #[.int .u8 k,.int .i64 n,.string sx,.slice a l c] 80)=w1:=⟨_,rfl⟩
 have hb1:Below w.heap.size w w1:=hw1▸(Below.refl _ _).alloc (Nat.le_refl _) _
 have hx1:Arr w1 w.heap.size 80 [.int .u8 k,.int .i64 n,.string sx,.slice a l c]:=hw1▸Arr.new w [.int .u8 k,.int .i64 n,.string sx,.slice a l c] _
 have HB1:=hid hb1
 have HX1:=hid hx1
 have HW1:=hid hw1
 have x3:=hx1.cell (j:=3) (by simp)
 simp only [gE0,gE1] at x3
 clear hC ih hk hl' h hkids heg hnr hd hr hz hb1 hx1 hw1 hl
 go_enter Tryz.func119,Tryz.ntmps119
 go_upto_block 0 with fail
 rw [HW1.out]
 go_wp2_with fail
 clear x3
 go_loopw [4,15] (fun lv i wr=>∃(m:Nat) (va:Option Addr) (vc:Nat) (ts:List GT) (vs:List Value),m<=l/\lv=.slice va m vc/\i=.int .i64 (m:Int)/\Hid (KidsV g m ts vs)/\Hid (Own wr w1.heap.size 133 1 va vc m vs)/\Hid (Below w1.heap.size w1 wr)) (fun _ i _=>l-(intOf i).toNat)
 case atStart=>exact ⟨0,none,0,[],[],Nat.zero_le _,rfl,rfl,⟨rfl,rfl,rfl,by simp,fun j h=>absurd h (Nat.not_lt_zero _)⟩,Own.nil _ _ _ _,Below.refl _ _⟩
 obtain ⟨m,va,vc,ts,vs,hm,rfl,rfl,HKV,HO,HB⟩:=hrel
 have HBB:=hid (HB1.out.trans (HB.out.mono HB1.out.size))
 by_cases hml:m<l
 ·obtain ⟨rfl,hbl⟩:=hb (by omega)
  have i1:(m:Int)<(l:Int):=by omega
  have i2:(0:Int)<=(m:Int):=by omega
  have hmk:m<g.kids.length:=by rw [HL.out];exact hml
  obtain ⟨c0,c1,c2,c3,y0,y1,y2,y3,hgi⟩:=HK.out m hmk
  replace y0:=(HBB.out.cell (p:=⟨b,off+m*4,none⟩) hbl).trans y0
  replace y1:=(HBB.out.cell (p:=⟨b,off+m*4+1,none⟩) hbl).trans y1
  replace y2:=(HBB.out.cell (p:=⟨b,off+m*4+2,none⟩) hbl).trans y2
  replace y3:=(HBB.out.cell (p:=⟨b,off+m*4+3,none⟩) hbl).trans y3
  obtain ⟨k2,n2,s2,a2,l2,cc2,he⟩:=hgi.four
  simp only [List.cons.injEq,and_true] at he
  obtain ⟨rfl,rfl,rfl,rfl⟩:=he
  obtain ⟨q1,q2,q3⟩:=HKI.out _ (List.getElem_mem hmk)
  obtain ⟨w2,hw2⟩:∃w2,wr.alloc (.cells #[.int .u8 k2,.int .i64 n2,.string s2,.slice a2 l2 cc2] 80)=w2:=⟨_,rfl⟩
  have hb2:Below w1.heap.size w1 w2:=hw2▸HB.out.alloc HB.out.size _
  have ho2:Own w2 w1.heap.size 133 1 va vc m vs:=hw2▸HO.out.alloc _
  have ha2:Arr w2 wr.heap.size 80 [.int .u8 k2,.int .i64 n2,.string s2,.slice a2 l2 cc2]:=hw2▸Arr.new wr [.int .u8 k2,.int .i64 n2,.string s2,.slice a2 l2 cc2] _
  obtain ⟨u0,u1,u2,u3⟩:=box4 ha2 (Below.refl _ _)
  have HIH2:=hid (HIH.out g.kids[m] _ w2 q1 q2 q3 (hgi.keepB (HB1.out.trans (hb2.mono HB1.out.size))))
  have HB2:=hid hb2
  have HO2:=hid ho2
  have HW2:=hid hw2
  have wr1:IntKind.i64.wrap ((m:Int)+1)=(m:Int)+1:=wrap_i64 (by omega) (by omega)
  clear hgi q1 q2 q3 hb2 ho2 hw2 ha2
  go_upto_region 5 with fail
  rw [HW2.out]
  go_wp2_with fail
  refine HIH2.out.mono ?_
  rintro e w3 ⟨hb3,v,r,rfl,hr1,hr2⟩
  have HB3:=hid (HB2.out.trans (hb3.mono HB2.out.size))
  have HO3:=hid (HO2.out.below hb3 (Nat.le_refl _))
  clear hb3 HIH2 u0 u1 u2 u3
  cases r with
  | false =>
   have HNO:=hid (kids_no hmk (fun h=>absurd (hr2 h) (by decide)))
   clear hr1 hr2
   go_wp2_with fail
   go_ret2
   exact ⟨HB1.out.trans (HB3.out.mono HB1.out.size),_,_,rfl,fun h=>absurd h (by decide),fun h=>absurd h HNO.out⟩
  | true =>
   obtain ⟨t,ht1,ht2,ht3⟩:=hr1 rfl
   have HKV2:=hid (HKV.out.snoc hmk ht1 ht2 ht3)
   obtain ⟨vT,vp,rfl⟩:=ht3.iface
   have hv1:=ht3.one
   obtain ⟨w4,hw4⟩:∃w4,w3.alloc (.cells #[.iface vT vp] 133)=w4:=⟨_,rfl⟩
   have hc4:w4.cell? ⟨w3.heap.size,0,none⟩=some (.iface vT vp):=hw4▸(Arr.new w3 [.iface vT vp] _).cell (j:=0) (by simp)
   have hb4:Below w1.heap.size w1 w4:=hw4▸HB3.out.alloc HB3.out.size _
   have ho4:Own w4 w1.heap.size 133 1 va vc m vs:=hw4▸HO3.out.alloc _
   obtain ⟨va',vc',w5,hap,ho5,hg5⟩:=Own.app elemNode 140 ho4 hb4.size (some ⟨w3.heap.size,0,none⟩) 1 1 w3.heap.size 0 [.iface vT vp] rfl (fun _=>rfl) (fun j u hj=>by
    cases j with
    | zero=>simp at hj;subst hj;exact hc4
    | succ j=>simp at hj) (fun u hu=>by rw [List.mem_singleton.1 hu];exact hv1) (by unfold maxLen;omega) (by omega)
   rw [<-hw4] at hap
   have HAP:=hid hap
   have HO5:=hid ho5
   have HB5:=hid (hb4.grown hg5 hb4.size (fun j hj=>by
    rcases ho4.block with ⟨h1,_⟩ | ⟨g,h1,h2,_⟩
    ·rw [h1] at hj;cases hj
    rw [h1] at hj;cases hj;exact h2))
   clear hr1 hr2 ht1 ht2 ht3 hv1 hc4 hb4 ho4 hap ho5 hg5 hw4 y0 y1 y2 y3 HIH HK HKI
   go_wp2_with (at_builtin;refine wpList_append_run (by rfl) (.tmp 26) (.tmp 28) 140 (by rfl) (by rfl) (by rfl) HAP.out ?_)
   refine ⟨⟨m+1,va',vc',_,_,by omega,rfl,rfl,HKV2,HO5,HB5⟩,by simp only [intOf];omega⟩
 obtain rfl:m=l:=by omega
 have i1:¬(m:Int)<(m:Int):=by omega
 obtain ⟨z0,z1,z2,z3⟩:=box4 HX1.out HB.out
 have hz0:w.heap.size<wr.heap.size:=Nat.lt_of_lt_of_le HX1.out.lt HB.out.size
 obtain ⟨I,eI⟩:∃I,(n==0)=I:=⟨_,rfl⟩
 obtain ⟨X,eX⟩:∃X,(sx.toList==[])=X:=⟨_,rfl⟩
 have hI:I=true↔n=0:=by rw [<-eI];exact beq_iff_eq
 have hX:X=true↔sx=⟨#[]⟩:=by
  rw [<-eX]
  rcases nz_list (s:=sx) with ⟨h1,h2⟩ | ⟨h1,h2⟩
  ·rw [h2];exact ⟨fun _=>h1,fun _=>rfl⟩
  rw [h2];exact ⟨fun h=>absurd h (by decide),fun h=>absurd h h1⟩
 have HI:=hid hI
 have HXX:=hid hX
 clear hI hX hb HIH HK HKI
 go_wp2_with fail
 go_quiet (fail)
 clear eI eX z0 z1 z2 z3 i1
 have HBd:=hid (below_drewN HB.out nq)
 have HOd:=hid (HO.out.drewN nq)
 clear HB HO HBB
 generalize wr.drewN nq=wd at *
 have hz1:w.heap.size<wd.heap.size:=Nat.lt_of_lt_of_le HX1.out.lt HBd.out.size
 have HEND:=hid (HB1.out.trans (HBd.out.mono HB1.out.size))
 obtain ⟨z0,z1,z2,z3⟩:=box4 HX1.out HBd.out
 have hk1:=HKK.out
 clear HKK
 subst hk1
 by_cases hm0:m=0
 rotate_left
 ·have e0:((m:Int)==0)=false:=by rw [beq_eq_false_iff_ne];omega
  have HM0:=hid hm0
  clear hm0
  go_wp2_with fail
  go_ret2
  exact ⟨HEND.out,_,_,rfl,made_leafG HEG.out HL.out (by omega) a c ⟨fun h=>absurd h (by decide),fun h=>absurd h.1 HM0.out⟩⟩
 have e0:((m:Int)==0)=true:=by rw [beq_iff_eq];omega
 have HM0:=hid hm0
 clear hm0
 cases I
 ·go_wp2_with fail
  go_ret2
  exact ⟨HEND.out,_,_,rfl,made_leafG HEG.out HL.out (by omega) a c ⟨fun h=>absurd h (by decide),fun h=>by rcases h.2 with ⟨_,q1,q2⟩ | ⟨q,_⟩ | ⟨q,_⟩ | ⟨q,_⟩<;>first | omega | exact absurd (HI.out.2 q1) (by decide) | exact absurd (HXX.out.2 q2) (by decide)⟩⟩
 cases X
 ·go_wp2_with fail
  go_ret2
  exact ⟨HEND.out,_,_,rfl,made_leafG HEG.out HL.out (by omega) a c ⟨fun h=>absurd h (by decide),fun h=>by rcases h.2 with ⟨_,q1,q2⟩ | ⟨q,_⟩ | ⟨q,_⟩ | ⟨q,_⟩<;>first | omega | exact absurd (HI.out.2 q1) (by decide) | exact absurd (HXX.out.2 q2) (by decide)⟩⟩
 go_wp2_with fail
 go_ret2
 exact ⟨HEND.out,_,_,rfl,made_leafG HEG.out HL.out (by omega) a c ⟨fun _=>⟨HM0.out,.inl ⟨.inl rfl,HI.out.1 (by simp),HXX.out.1 (by simp)⟩⟩,fun _=>rfl⟩⟩
theorem made_c2 {d:Nat} (ih:MadeIH d) (g:GD) (cs:List Value) (w:World) (hd:g.deep<=d+1) (hr:g.inR) (hz:g.size<=1000000) (h:GIn w g cs) (hC:∀k n s l,g=.node k n s l->k=2):Calls Tryz.prog 119 #[.agg cs.toArray] w (MadeEnd g w):=by
 have HIH:=hid ih
 obtain ⟨k,n,sx,a,c,b,off,heg,rfl,hl,-,hb,hk⟩:=h.kid
 have HK:=hid hk
 have hkids:∀x∈g.kids,x.deep<=d/\x.inR/\x.size<=1000000:=fun x hx=>by
  have h1:=deeps_mem hx
  have h2:=sizes_mem hx
  have h3:=g.deep_eq
  rw [heg] at hr hz
  simp only [GD.inR,GD.size] at hr hz
  exact ⟨by omega,inRs_mem hx hr.2,by omega⟩
 have hlz:g.kids.length<=1000000:=by
  rw [heg] at hz
  simp only [GD.size] at hz
  have:=sizes_len g.kids
  omega
 have hnr:n<=9223372036854775807:=by
  rw [heg] at hr
  simp only [GD.inR] at hr
  exact hr.1.2
 have HKI:=hid hkids
 have HEG:=hid heg
 have HKK:=hid (hC k n sx g.kids heg)
 have HNR:=hid hnr
 have HSZ:Hid (sx.size<=1000000):=by
  show _<=_
  rw [heg] at hz
  simp only [GD.size] at hz
  omega
 obtain ⟨l,hl'⟩:∃l,g.kids.length=l:=⟨_,rfl⟩
 rw [hl'] at hb hl hlz ⊢
 have HL:=hid hl'
 obtain ⟨w1,hw1⟩:∃w1,w.alloc (.cells #[.int .u8 k,.int .i64 n,.string sx,.slice a l c] 80)=w1:=⟨_,rfl⟩
 have hb1:Below w.heap.size w w1:=hw1▸(Below.refl _ _).alloc (Nat.le_refl _) _
 have hx1:Arr w1 w.heap.size 80 [.int .u8 k,.int .i64 n,.string sx,.slice a l c]:=hw1▸Arr.new w [.int .u8 k,.int .i64 n,.string sx,.slice a l c] _
 have HB1:=hid hb1
 have HX1:=hid hx1
 have HW1:=hid hw1
 have x3:=hx1.cell (j:=3) (by simp)
 simp only [gE0,gE1] at x3
 clear hC ih hk hl' h hkids heg hnr hd hr hz hb1 hx1 hw1 hl
 go_enter Tryz.func119,Tryz.ntmps119
 go_upto_block 0 with fail
 rw [HW1.out]
 go_wp2_with fail
 clear x3
 go_loopw [4,15] (fun lv i wr=>∃(m:Nat) (va:Option Addr) (vc:Nat) (ts:List GT) (vs:List Value),m<=l/\lv=.slice va m vc/\i=.int .i64 (m:Int)/\Hid (KidsV g m ts vs)/\Hid (Own wr w1.heap.size 133 1 va vc m vs)/\Hid (Below w1.heap.size w1 wr)) (fun _ i _=>l-(intOf i).toNat)
 case atStart=>exact ⟨0,none,0,[],[],Nat.zero_le _,rfl,rfl,⟨rfl,rfl,rfl,by simp,fun j h=>absurd h (Nat.not_lt_zero _)⟩,Own.nil _ _ _ _,Below.refl _ _⟩
 obtain ⟨m,va,vc,ts,vs,hm,rfl,rfl,HKV,HO,HB⟩:=hrel
 have HBB:=hid (HB1.out.trans (HB.out.mono HB1.out.size))
 by_cases hml:m<l
 ·obtain ⟨rfl,hbl⟩:=hb (by omega)
  have i1:(m:Int)<(l:Int):=by omega
  have i2:(0:Int)<=(m:Int):=by omega
  have hmk:m<g.kids.length:=by rw [HL.out];exact hml
  obtain ⟨c0,c1,c2,c3,y0,y1,y2,y3,hgi⟩:=HK.out m hmk
  replace y0:=(HBB.out.cell (p:=⟨b,off+m*4,none⟩) hbl).trans y0
  replace y1:=(HBB.out.cell (p:=⟨b,off+m*4+1,none⟩) hbl).trans y1
  replace y2:=(HBB.out.cell (p:=⟨b,off+m*4+2,none⟩) hbl).trans y2
  replace y3:=(HBB.out.cell (p:=⟨b,off+m*4+3,none⟩) hbl).trans y3
  obtain ⟨k2,n2,s2,a2,l2,cc2,he⟩:=hgi.four
  simp only [List.cons.injEq,and_true] at he
  obtain ⟨rfl,rfl,rfl,rfl⟩:=he
  obtain ⟨q1,q2,q3⟩:=HKI.out _ (List.getElem_mem hmk)
  obtain ⟨w2,hw2⟩:∃w2,wr.alloc (.cells #[.int .u8 k2,.int .i64 n2,.string s2,.slice a2 l2 cc2] 80)=w2:=⟨_,rfl⟩
  have hb2:Below w1.heap.size w1 w2:=hw2▸HB.out.alloc HB.out.size _
  have ho2:Own w2 w1.heap.size 133 1 va vc m vs:=hw2▸HO.out.alloc _
  have ha2:Arr w2 wr.heap.size 80 [.int .u8 k2,.int .i64 n2,.string s2,.slice a2 l2 cc2]:=hw2▸Arr.new wr [.int .u8 k2,.int .i64 n2,.string s2,.slice a2 l2 cc2] _
  obtain ⟨u0,u1,u2,u3⟩:=box4 ha2 (Below.refl _ _)
  have HIH2:=hid (HIH.out g.kids[m] _ w2 q1 q2 q3 (hgi.keepB (HB1.out.trans (hb2.mono HB1.out.size))))
  have HB2:=hid hb2
  have HO2:=hid ho2
  have HW2:=hid hw2
  have wr1:IntKind.i64.wrap ((m:Int)+1)=(m:Int)+1:=wrap_i64 (by omega) (by omega)
  clear hgi q1 q2 q3 hb2 ho2 hw2 ha2
  go_upto_region 5 with fail
  rw [HW2.out]
  go_wp2_with fail
  refine HIH2.out.mono ?_
  rintro e w3 ⟨hb3,v,r,rfl,hr1,hr2⟩
  have HB3:=hid (HB2.out.trans (hb3.mono HB2.out.size))
  have HO3:=hid (HO2.out.below hb3 (Nat.le_refl _))
  clear hb3 HIH2 u0 u1 u2 u3
  cases r with
  | false =>
   have HNO:=hid (kids_no hmk (fun h=>absurd (hr2 h) (by decide)))
   clear hr1 hr2
   go_wp2_with fail
   go_ret2
   exact ⟨HB1.out.trans (HB3.out.mono HB1.out.size),_,_,rfl,fun h=>absurd h (by decide),fun h=>absurd h HNO.out⟩
  | true =>
   obtain ⟨t,ht1,ht2,ht3⟩:=hr1 rfl
   have HKV2:=hid (HKV.out.snoc hmk ht1 ht2 ht3)
   obtain ⟨vT,vp,rfl⟩:=ht3.iface
   have hv1:=ht3.one
   obtain ⟨w4,hw4⟩:∃w4,w3.alloc (.cells #[.iface vT vp] 133)=w4:=⟨_,rfl⟩
   have hc4:w4.cell? ⟨w3.heap.size,0,none⟩=some (.iface vT vp):=hw4▸(Arr.new w3 [.iface vT vp] _).cell (j:=0) (by simp)
   have hb4:Below w1.heap.size w1 w4:=hw4▸HB3.out.alloc HB3.out.size _
   have ho4:Own w4 w1.heap.size 133 1 va vc m vs:=hw4▸HO3.out.alloc _
   obtain ⟨va',vc',w5,hap,ho5,hg5⟩:=Own.app elemNode 140 ho4 hb4.size (some ⟨w3.heap.size,0,none⟩) 1 1 w3.heap.size 0 [.iface vT vp] rfl (fun _=>rfl) (fun j u hj=>by
    cases j with
    | zero=>simp at hj;subst hj;exact hc4
    | succ j=>simp at hj) (fun u hu=>by rw [List.mem_singleton.1 hu];exact hv1) (by unfold maxLen;omega) (by omega)
   rw [<-hw4] at hap
   have HAP:=hid hap
   have HO5:=hid ho5
   have HB5:=hid (hb4.grown hg5 hb4.size (fun j hj=>by
    rcases ho4.block with ⟨h1,_⟩ | ⟨g,h1,h2,_⟩
    ·rw [h1] at hj;cases hj
    rw [h1] at hj;cases hj;exact h2))
   clear hr1 hr2 ht1 ht2 ht3 hv1 hc4 hb4 ho4 hap ho5 hg5 hw4 y0 y1 y2 y3 HIH HK HKI
   go_wp2_with (at_builtin;refine wpList_append_run (by rfl) (.tmp 26) (.tmp 28) 140 (by rfl) (by rfl) (by rfl) HAP.out ?_)
   refine ⟨⟨m+1,va',vc',_,_,by omega,rfl,rfl,HKV2,HO5,HB5⟩,by simp only [intOf];omega⟩
 obtain rfl:m=l:=by omega
 have i1:¬(m:Int)<(m:Int):=by omega
 obtain ⟨z0,z1,z2,z3⟩:=box4 HX1.out HB.out
 have hz0:w.heap.size<wr.heap.size:=Nat.lt_of_lt_of_le HX1.out.lt HB.out.size
 obtain ⟨I,eI⟩:∃I,(n==0)=I:=⟨_,rfl⟩
 obtain ⟨X,eX⟩:∃X,(sx.toList==[])=X:=⟨_,rfl⟩
 have hI:I=true↔n=0:=by rw [<-eI];exact beq_iff_eq
 have hX:X=true↔sx=⟨#[]⟩:=by
  rw [<-eX]
  rcases nz_list (s:=sx) with ⟨h1,h2⟩ | ⟨h1,h2⟩
  ·rw [h2];exact ⟨fun _=>h1,fun _=>rfl⟩
  rw [h2];exact ⟨fun h=>absurd h (by decide),fun h=>absurd h h1⟩
 have HI:=hid hI
 have HXX:=hid hX
 clear hI hX hb HIH HK HKI
 go_wp2_with fail
 go_quiet (fail)
 clear eI eX z0 z1 z2 z3 i1
 have HBd:=hid (below_drewN HB.out nq)
 have HOd:=hid (HO.out.drewN nq)
 clear HB HO HBB
 generalize wr.drewN nq=wd at *
 have hz1:w.heap.size<wd.heap.size:=Nat.lt_of_lt_of_le HX1.out.lt HBd.out.size
 have HEND:=hid (HB1.out.trans (HBd.out.mono HB1.out.size))
 obtain ⟨z0,z1,z2,z3⟩:=box4 HX1.out HBd.out
 have hk2:=HKK.out
 clear HKK
 subst hk2
 by_cases hm0:m=0
 rotate_left
 ·have e0:((m:Int)==0)=false:=by rw [beq_eq_false_iff_ne];omega
  have HM0:=hid hm0
  clear hm0
  go_wp2_with fail
  go_ret2
  exact ⟨HEND.out,_,_,rfl,made_leafG HEG.out HL.out (by omega) a c ⟨fun h=>absurd h (by decide),fun h=>absurd h.1 HM0.out⟩⟩
 have e0:((m:Int)==0)=true:=by rw [beq_iff_eq];omega
 have HM0:=hid hm0
 clear hm0
 cases I
 ·go_wp2_with fail
  go_ret2
  exact ⟨HEND.out,_,_,rfl,made_leafG HEG.out HL.out (by omega) a c ⟨fun h=>absurd h (by decide),fun h=>by rcases h.2 with ⟨_,q1,q2⟩ | ⟨q,_⟩ | ⟨q,_⟩ | ⟨q,_⟩<;>first | omega | exact absurd (HI.out.2 q1) (by decide) | exact absurd (HXX.out.2 q2) (by decide)⟩⟩
 cases X
 ·go_wp2_with fail
  go_ret2
  exact ⟨HEND.out,_,_,rfl,made_leafG HEG.out HL.out (by omega) a c ⟨fun h=>absurd h (by decide),fun h=>by rcases h.2 with ⟨_,q1,q2⟩ | ⟨q,_⟩ | ⟨q,_⟩ | ⟨q,_⟩<;>first | omega | exact absurd (HI.out.2 q1) (by decide) | exact absurd (HXX.out.2 q2) (by decide)⟩⟩
 go_wp2_with fail
 go_ret2
 exact ⟨HEND.out,_,_,rfl,made_leafG HEG.out HL.out (by omega) a c ⟨fun _=>⟨HM0.out,.inl ⟨.inr rfl,HI.out.1 (by simp),HXX.out.1 (by simp)⟩⟩,fun _=>rfl⟩⟩
theorem made_c3 {d:Nat} (ih:MadeIH d) (g:GD) (cs:List Value) (w:World) (hd:g.deep<=d+1) (hr:g.inR) (hz:g.size<=1000000) (h:GIn w g cs) (hC:∀k n s l,g=.node k n s l->k=3):Calls Tryz.prog 119 #[.agg cs.toArray] w (MadeEnd g w):=by
 have HIH:=hid ih
 obtain ⟨k,n,sx,a,c,b,off,heg,rfl,hl,-,hb,hk⟩:=h.kid
 have HK:=hid hk
 have hkids:∀x∈g.kids,x.deep<=d/\x.inR/\x.size<=1000000:=fun x hx=>by
  have h1:=deeps_mem hx
  have h2:=sizes_mem hx
  have h3:=g.deep_eq
  rw [heg] at hr hz
  simp only [GD.inR,GD.size] at hr hz
  exact ⟨by omega,inRs_mem hx hr.2,by omega⟩
 have hlz:g.kids.length<=1000000:=by
  rw [heg] at hz
  simp only [GD.size] at hz
  have:=sizes_len g.kids
  omega
 have hnr:n<=9223372036854775807:=by
  rw [heg] at hr
  simp only [GD.inR] at hr
  exact hr.1.2
 have HKI:=hid hkids
 have HEG:=hid heg
 have HKK:=hid (hC k n sx g.kids heg)
 have HNR:=hid hnr
 have HSZ:Hid (sx.size<=1000000):=by
  show _<=_
  rw [heg] at hz
  simp only [GD.size] at hz
  omega
 obtain ⟨l,hl'⟩:∃l,g.kids.length=l:=⟨_,rfl⟩
 rw [hl'] at hb hl hlz ⊢
 have HL:=hid hl'
 obtain ⟨w1,hw1⟩:∃w1,w.alloc (.cells #[.int .u8 k,.int .i64 n,.string sx,.slice a l c] 80)=w1:=⟨_,rfl⟩
 have hb1:Below w.heap.size w w1:=hw1▸(Below.refl _ _).alloc (Nat.le_refl _) _
 have hx1:Arr w1 w.heap.size 80 [.int .u8 k,.int .i64 n,.string sx,.slice a l c]:=hw1▸Arr.new w [.int .u8 k,.int .i64 n,.string sx,.slice a l c] _
 have HB1:=hid hb1
 have HX1:=hid hx1
 have HW1:=hid hw1
 have x3:=hx1.cell (j:=3) (by simp)
 simp only [gE0,gE1] at x3
 clear hC ih hk hl' h hkids heg hnr hd hr hz hb1 hx1 hw1 hl
 go_enter Tryz.func119,Tryz.ntmps119
 go_upto_block 0 with fail
 rw [HW1.out]
 go_wp2_with fail
 clear x3
 go_loopw [4,15] (fun lv i wr=>∃(m:Nat) (va:Option Addr) (vc:Nat) (ts:List GT) (vs:List Value),m<=l/\lv=.slice va m vc/\i=.int .i64 (m:Int)/\Hid (KidsV g m ts vs)/\Hid (Own wr w1.heap.size 133 1 va vc m vs)/\Hid (Below w1.heap.size w1 wr)) (fun _ i _=>l-(intOf i).toNat)
 case atStart=>exact ⟨0,none,0,[],[],Nat.zero_le _,rfl,rfl,⟨rfl,rfl,rfl,by simp,fun j h=>absurd h (Nat.not_lt_zero _)⟩,Own.nil _ _ _ _,Below.refl _ _⟩
 obtain ⟨m,va,vc,ts,vs,hm,rfl,rfl,HKV,HO,HB⟩:=hrel
 have HBB:=hid (HB1.out.trans (HB.out.mono HB1.out.size))
 by_cases hml:m<l
 ·obtain ⟨rfl,hbl⟩:=hb (by omega)
  have i1:(m:Int)<(l:Int):=by omega
  have i2:(0:Int)<=(m:Int):=by omega
  have hmk:m<g.kids.length:=by rw [HL.out];exact hml
  obtain ⟨c0,c1,c2,c3,y0,y1,y2,y3,hgi⟩:=HK.out m hmk
  replace y0:=(HBB.out.cell (p:=⟨b,off+m*4,none⟩) hbl).trans y0
  replace y1:=(HBB.out.cell (p:=⟨b,off+m*4+1,none⟩) hbl).trans y1
  replace y2:=(HBB.out.cell (p:=⟨b,off+m*4+2,none⟩) hbl).trans y2
  replace y3:=(HBB.out.cell (p:=⟨b,off+m*4+3,none⟩) hbl).trans y3
  obtain ⟨k2,n2,s2,a2,l2,cc2,he⟩:=hgi.four
  simp only [List.cons.injEq,and_true] at he
  obtain ⟨rfl,rfl,rfl,rfl⟩:=he
  obtain ⟨q1,q2,q3⟩:=HKI.out _ (List.getElem_mem hmk)
  obtain ⟨w2,hw2⟩:∃w2,wr.alloc (.cells #[.int .u8 k2,.int .i64 n2,.string s2,.slice a2 l2 cc2] 80)=w2:=⟨_,rfl⟩
  have hb2:Below w1.heap.size w1 w2:=hw2▸HB.out.alloc HB.out.size _
  have ho2:Own w2 w1.heap.size 133 1 va vc m vs:=hw2▸HO.out.alloc _
  have ha2:Arr w2 wr.heap.size 80 [.int .u8 k2,.int .i64 n2,.string s2,.slice a2 l2 cc2]:=hw2▸Arr.new wr [.int .u8 k2,.int .i64 n2,.string s2,.slice a2 l2 cc2] _
  obtain ⟨u0,u1,u2,u3⟩:=box4 ha2 (Below.refl _ _)
  have HIH2:=hid (HIH.out g.kids[m] _ w2 q1 q2 q3 (hgi.keepB (HB1.out.trans (hb2.mono HB1.out.size))))
  have HB2:=hid hb2
  have HO2:=hid ho2
  have HW2:=hid hw2
  have wr1:IntKind.i64.wrap ((m:Int)+1)=(m:Int)+1:=wrap_i64 (by omega) (by omega)
  clear hgi q1 q2 q3 hb2 ho2 hw2 ha2
  go_upto_region 5 with fail
  rw [HW2.out]
  go_wp2_with fail
  refine HIH2.out.mono ?_
  rintro e w3 ⟨hb3,v,r,rfl,hr1,hr2⟩
  have HB3:=hid (HB2.out.trans (hb3.mono HB2.out.size))
  have HO3:=hid (HO2.out.below hb3 (Nat.le_refl _))
  clear hb3 HIH2 u0 u1 u2 u3
  cases r with
  | false =>
   have HNO:=hid (kids_no hmk (fun h=>absurd (hr2 h) (by decide)))
   clear hr1 hr2
   go_wp2_with fail
   go_ret2
   exact ⟨HB1.out.trans (HB3.out.mono HB1.out.size),_,_,rfl,fun h=>absurd h (by decide),fun h=>absurd h HNO.out⟩
  | true =>
   obtain ⟨t,ht1,ht2,ht3⟩:=hr1 rfl
   have HKV2:=hid (HKV.out.snoc hmk ht1 ht2 ht3)
   obtain ⟨vT,vp,rfl⟩:=ht3.iface
   have hv1:=ht3.one
   obtain ⟨w4,hw4⟩:∃w4,w3.alloc (.cells #[.iface vT vp] 133)=w4:=⟨_,rfl⟩
   have hc4:w4.cell? ⟨w3.heap.size,0,none⟩=some (.iface vT vp):=hw4▸(Arr.new w3 [.iface vT vp] _).cell (j:=0) (by simp)
   have hb4:Below w1.heap.size w1 w4:=hw4▸HB3.out.alloc HB3.out.size _
   have ho4:Own w4 w1.heap.size 133 1 va vc m vs:=hw4▸HO3.out.alloc _
   obtain ⟨va',vc',w5,hap,ho5,hg5⟩:=Own.app elemNode 140 ho4 hb4.size (some ⟨w3.heap.size,0,none⟩) 1 1 w3.heap.size 0 [.iface vT vp] rfl (fun _=>rfl) (fun j u hj=>by
    cases j with
    | zero=>simp at hj;subst hj;exact hc4
    | succ j=>simp at hj) (fun u hu=>by rw [List.mem_singleton.1 hu];exact hv1) (by unfold maxLen;omega) (by omega)
   rw [<-hw4] at hap
   have HAP:=hid hap
   have HO5:=hid ho5
   have HB5:=hid (hb4.grown hg5 hb4.size (fun j hj=>by
    rcases ho4.block with ⟨h1,_⟩ | ⟨g,h1,h2,_⟩
    ·rw [h1] at hj;cases hj
    rw [h1] at hj;cases hj;exact h2))
   clear hr1 hr2 ht1 ht2 ht3 hv1 hc4 hb4 ho4 hap ho5 hg5 hw4 y0 y1 y2 y3 HIH HK HKI
   go_wp2_with (at_builtin;refine wpList_append_run (by rfl) (.tmp 26) (.tmp 28) 140 (by rfl) (by rfl) (by rfl) HAP.out ?_)
   refine ⟨⟨m+1,va',vc',_,_,by omega,rfl,rfl,HKV2,HO5,HB5⟩,by simp only [intOf];omega⟩
 obtain rfl:m=l:=by omega
 have i1:¬(m:Int)<(m:Int):=by omega
 obtain ⟨z0,z1,z2,z3⟩:=box4 HX1.out HB.out
 have hz0:w.heap.size<wr.heap.size:=Nat.lt_of_lt_of_le HX1.out.lt HB.out.size
 obtain ⟨I,eI⟩:∃I,(n==0)=I:=⟨_,rfl⟩
 obtain ⟨X,eX⟩:∃X,(sx.toList==[])=X:=⟨_,rfl⟩
 have hI:I=true↔n=0:=by rw [<-eI];exact beq_iff_eq
 have hX:X=true↔sx=⟨#[]⟩:=by
  rw [<-eX]
  rcases nz_list (s:=sx) with ⟨h1,h2⟩ | ⟨h1,h2⟩
  ·rw [h2];exact ⟨fun _=>h1,fun _=>rfl⟩
  rw [h2];exact ⟨fun h=>absurd h (by decide),fun h=>absurd h h1⟩
 have HI:=hid hI
 have HXX:=hid hX
 clear hI hX hb HIH HK HKI
 go_wp2_with fail
 go_quiet (fail)
 clear eI eX z0 z1 z2 z3 i1
 have HBd:=hid (below_drewN HB.out nq)
 have HOd:=hid (HO.out.drewN nq)
 clear HB HO HBB
 generalize wr.drewN nq=wd at *
 have hz1:w.heap.size<wd.heap.size:=Nat.lt_of_lt_of_le HX1.out.lt HBd.out.size
 have HEND:=hid (HB1.out.trans (HBd.out.mono HB1.out.size))
 obtain ⟨z0,z1,z2,z3⟩:=box4 HX1.out HBd.out
 have hk3:=HKK.out
 clear HKK
 subst hk3
 by_cases hm0:m=0
 rotate_left
 ·have e0:((m:Int)==0)=false:=by rw [beq_eq_false_iff_ne];omega
  have HM0:=hid hm0
  clear hm0
  go_wp2_with fail
  go_ret2
  exact ⟨HEND.out,_,_,rfl,made_leafG HEG.out HL.out (by omega) a c ⟨fun h=>absurd h (by decide),fun h=>absurd h.1 HM0.out⟩⟩
 have e0:((m:Int)==0)=true:=by rw [beq_iff_eq];omega
 have HM0:=hid hm0
 clear hm0
 by_cases hn:0<=n
 rotate_left
 ·have e1:decide (0<=n)=false:=decide_eq_false hn
  have HN:=hid hn
  clear hn
  go_wp2_with fail
  go_ret2
  exact ⟨HEND.out,_,_,rfl,made_leafG HEG.out HL.out (by omega) a c ⟨fun h=>absurd h (by decide),fun h=>by rcases h.2 with ⟨q,_⟩ | ⟨_,q1,_,q2⟩ | ⟨q,_⟩ | ⟨q,_⟩<;>first | omega | (have:=HN.out;omega) | exact absurd (HXX.out.2 q2) (by decide)⟩⟩
 have e1:decide (0<=n)=true:=decide_eq_true hn
 have HN:=hid hn
 clear hn
 cases X
 ·go_wp2_with fail
  go_ret2
  exact ⟨HEND.out,_,_,rfl,made_leafG HEG.out HL.out (by omega) a c ⟨fun h=>absurd h (by decide),fun h=>by rcases h.2 with ⟨q,_⟩ | ⟨_,q1,_,q2⟩ | ⟨q,_⟩ | ⟨q,_⟩<;>first | omega | exact absurd (HXX.out.2 q2) (by decide)⟩⟩
 go_wp2_with fail
 go_ret2
 exact ⟨HEND.out,_,_,rfl,made_leafG HEG.out HL.out (by omega) a c ⟨fun _=>⟨HM0.out,.inr (.inl ⟨rfl,HN.out,HNR.out,HXX.out.1 (by simp)⟩)⟩,fun _=>rfl⟩⟩
theorem elemU8:Elem Tryz.prog 237 5 1 1:=⟨Tryz.underlying237,⟨.int .u8 0,by kernel_rfl,rfl⟩,by omega,Tryz.sizeOf5⟩
def KidsE (vs:List Value) (w:World) (e:Ending) (w':World):Prop:=Below w.heap.size w w'/\∃a c b off,e=.returned (.slice a vs.length c)/\(0<vs.length->a=some ⟨b,off,none⟩/\b<w'.heap.size/\w.heap.size<=b)/\∀j u,vs[j]? = some u->w'.cell? ⟨b,off+j,none⟩=some u
abbrev tup2 (r:Int×Int):Ending:=.returned (.tuple #[.int .u8 r.1,.int .i64 r.2])
theorem judged_gen (md:ModelD) (v:ModelV) (T:TypeId) (p:Value) (kF dF:FuncId) (ts:List GT) (vs:List Value) (R:Int×Int) (w:World)
  (hmk:∀W,(method 395 T p "docket/guard.kids").run Tryz.prog W=.ok (kF,p) W) (hmd:∀W,(method 395 T p "docket/guard.kind").run Tryz.prog W=.ok (dF,p) W) (hek:∀args W,(callFunc kF args).run Tryz.prog W=.ok (.enter kF args) W) (hed:∀args W,(callFunc dF args).run Tryz.prog W=.ok (.enter dF args) W) (hlen:vs.length=ts.length) (hl:ts.length<=2)
  (hk:∀W,Calls Tryz.prog kF #[p] W (KidsE vs W))
  (hj:∀j (h:j<ts.length) (h':j<vs.length) W,ModelM false (From 0) W md v->Calls Tryz.prog 156 #[vs[j],.agg (v.cs md).toArray] W (fun e w'=>e=tup2 (judg md ts[j])/\Below W.heap.size W w'))
  (hd:(∀j (h:j<ts.length),(judg md ts[j]).2=0)->∀W base va vc,ModelM false (From 0) W md v->Own W base 5 1 va vc ts.length (ts.map fun t=>.int .u8 (judg md t).1)->Calls Tryz.prog dF #[p,.agg (v.cs md).toArray,.slice va ts.length vc] W (fun e w'=>e=tup2 R/\Below W.heap.size W w'))
  (hR:∀m (h:m<ts.length),(judg md ts[m]).2≠0->(∀j (hj:j<m),(judg md ts[j]).2=0)->R=(0,(judg md ts[m]).2))
  (hm:ModelM false (From 0) w md v):Calls Tryz.prog 156 #[.iface T p,.agg (v.cs md).toArray] w (fun e w'=>e=tup2 R/\Below w.heap.size w w'):=by
 obtain ⟨w1,hw1⟩:∃w1,w.alloc (.cells (v.cs md).toArray 31)=w1:=⟨_,rfl⟩
 have hb1:Below w.heap.size w w1:=hw1▸(Below.refl _ _).alloc (Nat.le_refl _) _
 have hx1:Arr w1 w.heap.size 31 (v.cs md):=hw1▸Arr.new w (v.cs md) _
 have HK:=hid (hk w1)
 have HJ:=hid hj
 have HD:=hid hd
 have HR:=hid hR
 have HM:=hid hm
 have HB1:=hid hb1
 have HX1:=hid hx1
 have HW1:=hid hw1
 obtain ⟨n,hn⟩:∃n,ts.length=n:=⟨_,rfl⟩
 rw [hn] at hlen hl
 have HN:=hid hn
 have HVL:=hid hlen
 clear hk hj hd hR hm hb1 hx1 hw1 hn
 go_enter Tryz.func156,Tryz.ntmps156
 go_upto_region 1 with fail
 rw [HW1.out]
 go_wp2_with fail
 refine HK.out.mono ?_
 rintro e w2 ⟨hb2,a,c,b,off,rfl,ha,hcell⟩
 rw [hlen] at ha ⊢
 have HB2:=hid (HB1.out.trans (hb2.mono HB1.out.size))
 have HB12:=hid hb2
 have HA:=hid ha
 have HC:=hid hcell
 clear hb2 hcell HK
 go_wp2_with fail
 go_loopw [6,14] (fun l i wr=>∃m:Nat,m<=n/\i=.int .i64 (m:Int)/\∃va vc,l=.slice va m vc/\Hid (Own wr w2.heap.size 5 1 va vc m ((ts.take m).map fun t=>.int .u8 (judg md t).1))/\Hid (Below w2.heap.size w2 wr)/\Hid (∀j (h:j<ts.length),j<m->(judg md ts[j]).2=0)) (fun _ i _=>n-(intOf i).toNat)
 case atStart=>exact ⟨0,Nat.zero_le _,rfl,none,0,rfl,Own.nil _ _ _ _,Below.refl _ _,fun j _ h=>absurd h (Nat.not_lt_zero _)⟩
 obtain ⟨m,hmn,rfl,va,vc,rfl,HO,HB,HZ⟩:=hrel
 have hb13:Below w1.heap.size w1 wr:=HB12.out.trans (HB.out.mono HB12.out.size)
 have HB3:=hid (HB2.out.trans (HB.out.mono HB2.out.size))
 obtain ⟨y0,y1,y2,y3,y4,y5⟩:=box6 HX1.out hb13
 clear hb13
 by_cases hml:m<n
 ·have i1:(m:Int)<(n:Int):=by omega
  have i2:(0:Int)<=(m:Int):=by omega
  obtain ⟨rfl,hbl,-⟩:=HA.out (by omega)
  have hmv:m<vs.length:=by rw [HVL.out];exact hml
  have hmt:m<ts.length:=by rw [HN.out];exact hml
  have c0:wr.cell? ⟨b,off+m,none⟩=some vs[m]:=cellBelow2 HB.out (HC.out m _ (List.getElem?_eq_getElem hmv))
  have hJ:=HJ.out m hmt hmv wr (HM.out.grow HB3.out)
  obtain ⟨r,hr⟩:∃r,judg md ts[m]=r:=⟨_,rfl⟩
  obtain ⟨u,hu⟩:∃u,vs[m]=u:=⟨_,rfl⟩
  rw [hr,hu] at hJ
  rw [hu] at c0
  have HJ2:=hid hJ
  have HRR:=hid hr
  have HML:=hid hml
  clear hJ hr hu hml
  go_wp2_with fail
  refine HJ2.out.mono ?_
  rintro e w4 ⟨rfl,hb4⟩
  have HB4:=hid (HB3.out.trans (hb4.mono HB3.out.size))
  have HB24:=hid (HB.out.trans (hb4.mono HB.out.size))
  have HO4:=hid (HO.out.below hb4 (Nat.le_refl _))
  clear hb4 HJ2 HB HO y0 y1 y2 y3 y4 y5 c0
  by_cases hz:r.2=0
  ·have e1:(r.2 != 0)=false:=by simp [hz]
   have HZ2:=hid hz
   obtain ⟨w5,hw5⟩:∃w5,w4.alloc (.cells #[.int .u8 r.1] 5)=w5:=⟨_,rfl⟩
   have hc5:w5.cell? ⟨w4.heap.size,0,none⟩=some (.int .u8 r.1):=hw5▸(Arr.new w4 [.int .u8 r.1] _).cell (j:=0) (by simp)
   have hb5:Below w2.heap.size w2 w5:=hw5▸HB24.out.alloc HB24.out.size _
   have ho5:=(show Own w5 w2.heap.size 5 1 va vc m _ from hw5▸HO4.out.alloc _)
   obtain ⟨va',vc',w6,hap,ho6,hg6⟩:=Own.app elemU8 237 ho5 hb5.size (some ⟨w4.heap.size,0,none⟩) 1 1 w4.heap.size 0 [.int .u8 r.1] rfl (fun _=>rfl) (fun j u hj=>by
    cases j with
    | zero=>simp at hj;subst hj;exact hc5
    | succ j=>simp at hj) (fun u hu=>by rw [List.mem_singleton.1 hu];rfl) (by unfold maxLen;omega) (by omega)
   rw [<-hw5] at hap
   have HAP:=hid hap
   have HO6:Hid (Own w6 w2.heap.size 5 1 va' vc' (m+1) ((ts.take (m+1)).map fun t=>.int .u8 (judg md t).1)):=by
    have e:(ts.take (m+1)).map (fun t=>Value.int .u8 (judg md t).1)=(ts.take m).map (fun t=>Value.int .u8 (judg md t).1)++[.int .u8 r.1]:=by
     rw [List.take_succ_eq_append_getElem hmt,List.map_append,<-HRR.out];rfl
    rw [e];exact ho6
   have HB6:=hid (hb5.grown hg6 hb5.size (fun j hj=>by
    rcases ho5.block with ⟨h1,_⟩ | ⟨g,h1,h2,_⟩
    ·rw [h1] at hj;cases hj
    rw [h1] at hj;cases hj;exact h2))
   have wr1:IntKind.i64.wrap ((m:Int)+1)=(m:Int)+1:=wrap_i64 (by omega) (by omega)
   have HZ6:Hid (∀j (h:j<ts.length),j<m+1->(judg md ts[j]).2=0):=fun j h hj=>by
    rcases Nat.lt_or_ge j m with h1 | h1
    ·exact HZ.out j h h1
    obtain rfl:j=m:=by omega
    rw [HRR.out];exact HZ2.out
   clear hc5 hb5 ho5 hap ho6 hg6 hw5 hz HO4 HRR HJ HD HR HZ
   go_wp2_with (at_builtin;refine wpList_append_run (by rfl) (.tmp 27) (.tmp 29) 237 (by rfl) (by rfl) (by rfl) HAP.out ?_)
   refine ⟨⟨m+1,by have:=HML.out;omega,by go_num,va',vc',rfl,HO6,HB6,HZ6⟩,by simp only [intOf];have:=HML.out;omega⟩
  have e1:(r.2 != 0)=true:=by simpa using hz
  have HRE:Hid (R=(0,r.2)):=by
   show _=_
   rw [<-HRR.out]
   exact HR.out m hmt (by rw [HRR.out];exact hz) (fun j hj=>HZ.out j (by omega) hj)
  clear hz HJ HD HR HZ HRR HO4 HB24
  go_wp2_with fail
  go_ret2
  rw [HRE.out]
  exact ⟨rfl,HB4.out⟩
 obtain rfl:m=n:=by omega
 have i1:¬(m:Int)<(m:Int):=by omega
 have hown:=HO.out
 rw [List.take_of_length_le (by rw [HN.out];omega)] at hown
 have hD:=HD.out (fun j h=>HZ.out j h (by rw [<-HN.out];exact h)) wr w2.heap.size va vc (HM.out.grow HB3.out)
 rw [HN.out] at hD
 have HDD:=hid (hD hown)
 clear hD hown HJ HD HR HZ HO HB
 go_wp2_with fail
 refine HDD.out.mono ?_
 rintro e w4 ⟨rfl,hb4⟩
 have HB4:=hid (HB3.out.trans (hb4.mono HB3.out.size))
 clear hb4 HDD
 go_wp2_with fail
 go_ret2
 exact ⟨rfl,HB4.out⟩
theorem stageIx_le (md:ModelD) (s:ByteArray):-1<=stageIx md s/\stageIx md s<md.stages.length:=ixOf_le _ _
theorem attrIx_le (md:ModelD) (s:ByteArray):-1<=attrIx md s/\attrIx md s<md.attrs.length:=ixOf_le _ _
theorem leafKids (k:Nat) (n:Int) (s:ByteArray) (a:Option Addr) (c:Nat) (w:World):Calls Tryz.prog 230 #[.agg #[.int .u8 k,.int .i64 n,.string s,.slice a 0 c]] w (KidsE [] w):=by
 go_enter Tryz.func230,Tryz.ntmps230
 go_wp2_with fail
 go_ret
 exact ⟨(Below.refl _ _).alloc (Nat.le_refl _) _,none,0,0,0,rfl,fun h=>absurd h (by simp),fun j u h=>absurd h (by simp)⟩
theorem oneKids (T:TypeId) (p:Value) (w:World):Calls Tryz.prog 239 #[.agg #[.iface T p]] w (KidsE [.iface T p] w):=by
 go_enter Tryz.func239,Tryz.ntmps239
 go_wp2_with fail
 go_ret
 refine ⟨((Below.refl _ _).alloc (Nat.le_refl _) _).alloc (by rw [size_alloc];omega) _,_,_,w.heap.size+1,0,rfl,fun _=>⟨rfl,by rw [size_alloc,size_alloc];omega,by omega⟩,fun j u h=>?_⟩
 have h0:=(Arr.new (w.alloc (.cells #[.iface T p] 209)) [.iface T p] 133).cell (j:=0) (by simp)
 rw [size_alloc] at h0
 cases j with
 | zero=>simp at h;subst h;exact h0
 | succ j=>simp at h
theorem pairKids (k:Nat) (n:Int) (s:ByteArray) (a:Option Addr) (l c:Nat) (T T2:TypeId) (p p2:Value) (w:World):Calls Tryz.prog 243 #[.agg #[.int .u8 k,.int .i64 n,.string s,.slice a l c,.iface T p,.iface T2 p2]] w (KidsE [.iface T p,.iface T2 p2] w):=by
 go_enter Tryz.func243,Tryz.ntmps243
 go_wp2_with fail
 go_ret
 refine ⟨((Below.refl _ _).alloc (Nat.le_refl _) _).alloc (by rw [size_alloc];omega) _,_,_,w.heap.size+1,0,rfl,fun _=>⟨rfl,by rw [size_alloc,size_alloc];omega,by omega⟩,fun j u h=>?_⟩
 have hA:=Arr.new (w.alloc (.cells #[.int .u8 k,.int .i64 n,.string s,.slice a l c,.iface T p,.iface T2 p2] 211)) [.iface T p,.iface T2 p2] 133
 have h0:=hA.cell (j:=0) (by simp)
 have h1:=hA.cell (j:=1) (by simp)
 rw [size_alloc] at h0 h1
 match j,h with
 | 0,h=>simp at h;subst h;exact h0
 | 1,h=>simp at h;subst h;exact h1
 | j+2,h=>simp at h
theorem leafKindK (K:Int) (md:ModelD) (v:ModelV) (k:Nat) (hK:(k:Int)=K) (n:Int) (s:ByteArray) (a va:Option Addr) (c vn vc:Nat) (w:World) (hk:1<=k/\k<=7) (hz:md.Sml) (hm:ModelM false (From 0) w md v) :
  Calls Tryz.prog 231 #[.agg #[.int .u8 K,.int .i64 n,.string s,.slice a 0 c],.agg (v.cs md).toArray,.slice va vn vc] w (fun e w'=>e=tup2 (judg md (.leaf k n s))/\Below w.heap.size w w'):=by
 obtain ⟨w0,hw0⟩:∃w0,w.alloc (.cells #[.int .u8 K,.int .i64 n,.string s,.slice a 0 c] 138)=w0:=⟨_,rfl⟩
 obtain ⟨w1,hw1⟩:∃w1,w0.alloc (.cells (v.cs md).toArray 31)=w1:=⟨_,rfl⟩
 have hz0:w0.heap.size=w.heap.size+1:=by rw [<-hw0,size_alloc]
 have hb0:Below w.heap.size w w0:=hw0▸(Below.refl _ _).alloc (Nat.le_refl _) _
 have hb01:Below w0.heap.size w0 w1:=hw1▸(Below.refl _ _).alloc (Nat.le_refl _) _
 have hb1:Below w.heap.size w w1:=hb0.trans (hb01.mono hb0.size)
 have hL:Arr w1 w.heap.size 138 [.int .u8 K,.int .i64 n,.string s,.slice a 0 c]:=hw1▸(show Arr w0 _ _ _ from hw0▸Arr.new w _ _).alloc _
 have hX:Arr w1 (w.heap.size+1) 31 (v.cs md):=by
  have:=Arr.new w0 (v.cs md) 31
  rw [hz0] at this
  exact hw1▸this
 have HB1:=hid hb1
 have HL:=hid hL
 have HX:=hid hX
 have HM1:=hid (hm.grow hb1)
 have HW:Hid ((w.alloc (.cells #[.int .u8 K,.int .i64 n,.string s,.slice a 0 c] 138)).alloc (.cells (v.cs md).toArray 31)=w1):=by
  show _=_
  rw [hw0];exact hw1
 have egA:∀args w,(callFunc 234 args).run Tryz.prog w=.ok (.enter 234 args) w:=enters_of Tryz.func234 (by kernel_rfl) rfl
 obtain ⟨z0,z1,z2,z3⟩:=box4 hL (Below.refl _ _)
 obtain ⟨y0,y1,y2,y3,y4,y5⟩:=box6 hX (Below.refl _ _)
 have HIA:=hid (ixAttrM 234 #[.pointer (some ⟨w.heap.size,0,none⟩)] egA md.attrs s _ _ w1 hz.attrs (HM1.out).attrs (attrCl s w.heap.size w1 hL.lt z2))
 have HIS:=hid (guardStage md v s w1 hz.stages HM1.out)
 have HIT:=hid (guardStone md v s w1 hz.stones HM1.out)
 clear hz hm hb0 hb01 hb1 hL hX hw0 hw1 egA
 have:k=1\/k=2\/k=3\/k=4\/k=5\/k=6\/k=7:=by omega
 clear hk
 rcases this with rfl | rfl | rfl | rfl | rfl | rfl | rfl
 ·obtain rfl:K=1:=by omega
  go_enter Tryz.func231,Tryz.ntmps231
  go_upto_region 1 with fail
  rw [HW.out]
  go_wp2_with fail
  go_ret2
  exact ⟨rfl,HB1.out⟩
 ·obtain rfl:K=2:=by omega
  go_enter Tryz.func231,Tryz.ntmps231
  go_upto_region 1 with fail
  rw [HW.out]
  go_wp2_with fail
  go_ret2
  exact ⟨rfl,HB1.out⟩
 ·obtain rfl:K=3:=by omega
  go_enter Tryz.func231,Tryz.ntmps231
  go_upto_region 1 with fail
  rw [HW.out]
  go_wp2_with fail
  go_ret2
  exact ⟨rfl,HB1.out⟩
 ·obtain rfl:K=4:=by omega
  go_enter Tryz.func231,Tryz.ntmps231
  go_upto_region 1 with fail
  rw [HW.out]
  go_wp2_with fail
  go_ret2
  exact ⟨rfl,HB1.out⟩
 ·obtain rfl:K=5:=by omega
  obtain ⟨i,hi⟩:∃i,attrIx md s=i:=⟨_,rfl⟩
  have hile:=attrIx_le md s
  have hIA:=HIA.out
  rw [show ixOf (fun x:AttrD=>x.name.toList==s.toList) md.attrs=i from hi] at hIA
  rw [hi] at hile
  have HIA2:=hid hIA
  have HI:=hid hi
  clear hIA hi HIA HIS HIT
  go_enter Tryz.func231,Tryz.ntmps231
  go_upto_region 1 with fail
  rw [HW.out]
  go_wp2_with fail
  refine HIA2.out.mono ?_
  rintro e w2 ⟨rfl,hb2⟩
  have HB2:=hid (HB1.out.trans (hb2.mono HB1.out.size))
  have HM2:=hid (HM1.out.grow hb2)
  clear z0 z1 z2 z3 y0 y1 y2 y3 y4 y5
  obtain ⟨z0,z1,z2,z3⟩:=box4 HL.out hb2
  obtain ⟨y0,y1,y2,y3,y4,y5⟩:=box6 HX.out hb2
  clear hb2 HIA2
  by_cases hneg:i<0
  ·have HR:Hid (judg md (.leaf 5 n s)=(0,6)):=by
    show _=_
    simp only [judg,HI.out,if_pos hneg];rfl
   clear HI
   go_wp2_with fail
   go_ret2
   rw [HR.out]
   exact ⟨rfl,HB2.out⟩
  obtain ⟨m,rfl⟩:∃m:Nat,i=m:=⟨i.toNat,by omega⟩
  have hml:m<md.attrs.length:=by omega
  have i2:(m:Int)<(md.attrs.length:Int):=by omega
  have i3:(0:Int)<=(m:Int):=by omega
  obtain ⟨_,_,b,off,hv,-,hC⟩:=flat_open HM2.out.attrs
  injection hv with e1 e2 e3
  obtain ⟨ha,-,hbl⟩:=hC.at0 (by omega)
  rw [<-e1] at ha
  rw [ha] at y1
  have c1:w2.cell? ⟨b,off+m*2+1,none⟩=some (.int .u8 md.attrs[m].kind):=hC.cell m hml 1 _ rfl
  obtain ⟨q,hq⟩:∃q,md.attrs[m].kind=q:=⟨_,rfl⟩
  rw [hq] at c1
  have HR:Hid (judg md (.leaf 5 n s)=if q<1\/3<q then (0,171) else (q,0)):=by
   show _=_
   have hg:md.attrs[m]? = some md.attrs[m]:=List.getElem?_eq_getElem hml
   simp only [judg,HI.out,if_neg hneg,Int.toNat_natCast,hg,hq];rfl
  clear hC e1 e2 e3 ha hq HI
  by_cases h1:q<1
  ·have HR2:Hid (judg md (.leaf 5 n s)=(0,171)):=by
    show _=_
    rw [HR.out,if_pos (.inl h1)]
   go_wp2_with fail
   go_ret2
   rw [HR2.out]
   exact ⟨rfl,HB2.out⟩
  by_cases h3:3<q
  ·have HR2:Hid (judg md (.leaf 5 n s)=(0,171)):=by
    show _=_
    rw [HR.out,if_pos (.inr h3)]
   go_wp2_with fail
   go_ret2
   rw [HR2.out]
   exact ⟨rfl,HB2.out⟩
  have HR2:Hid (judg md (.leaf 5 n s)=(q,0)):=by
   show _=_
   rw [HR.out,if_neg (by omega)]
  go_wp2_with fail
  go_ret2
  rw [HR2.out]
  exact ⟨rfl,HB2.out⟩
 ·obtain rfl:K=6:=by omega
  obtain ⟨i,hi⟩:∃i,stageIx md s=i:=⟨_,rfl⟩
  have hIS:=HIS.out
  rw [hi] at hIS
  have HIS2:=hid hIS
  have HR:Hid (judg md (.leaf 6 n s)=if i<0 then (0,6) else (1,0)):=by
   show _=_
   simp only [judg,hi];rfl
  clear hIS hi HIA HIS HIT
  go_enter Tryz.func231,Tryz.ntmps231
  go_upto_region 1 with fail
  rw [HW.out]
  go_wp2_with fail
  refine HIS2.out.mono ?_
  rintro e w2 ⟨rfl,hb2⟩
  have HB2:=hid (HB1.out.trans (hb2.mono HB1.out.size))
  clear hb2 HIS2
  by_cases hneg:i<0
  ·have HR2:Hid (judg md (.leaf 6 n s)=(0,6)):=by
    show _=_
    rw [HR.out,if_pos hneg]
   go_wp2_with fail
   go_ret2
   rw [HR2.out]
   exact ⟨rfl,HB2.out⟩
  have HR2:Hid (judg md (.leaf 6 n s)=(1,0)):=by
   show _=_
   rw [HR.out,if_neg hneg]
  go_wp2_with fail
  go_ret2
  rw [HR2.out]
  exact ⟨rfl,HB2.out⟩
 obtain rfl:K=7:=by omega
 obtain ⟨i,hi⟩:∃i,stoneIx md s=i:=⟨_,rfl⟩
 have hIS:=HIT.out
 rw [hi] at hIS
 have HIS2:=hid hIS
 have HR:Hid (judg md (.leaf 7 n s)=if i<0 then (0,6) else (1,0)):=by
  show _=_
  simp only [judg,hi];rfl
 clear hIS hi HIA HIS HIT
 go_enter Tryz.func231,Tryz.ntmps231
 go_upto_region 1 with fail
 rw [HW.out]
 go_wp2_with fail
 refine HIS2.out.mono ?_
 rintro e w2 ⟨rfl,hb2⟩
 have HB2:=hid (HB1.out.trans (hb2.mono HB1.out.size))
 clear hb2 HIS2
 by_cases hneg:i<0
 ·have HR2:Hid (judg md (.leaf 7 n s)=(0,6)):=by
   show _=_
   rw [HR.out,if_pos hneg]
  go_wp2_with fail
  go_ret2
  rw [HR2.out]
  exact ⟨rfl,HB2.out⟩
 have HR2:Hid (judg md (.leaf 7 n s)=(1,0)):=by
  show _=_
  rw [HR.out,if_neg hneg]
 go_wp2_with fail
 go_ret2
 rw [HR2.out]
 exact ⟨rfl,HB2.out⟩
theorem leafKind (md:ModelD) (v:ModelV) (k:Nat) (n:Int) (s:ByteArray) (a va:Option Addr) (c vn vc:Nat) (w:World) (hk:1<=k/\k<=7) (hz:md.Sml) (hm:ModelM false (From 0) w md v) :
  Calls Tryz.prog 231 #[.agg #[.int .u8 k,.int .i64 n,.string s,.slice a 0 c],.agg (v.cs md).toArray,.slice va vn vc] w (fun e w'=>e=tup2 (judg md (.leaf k n s))/\Below w.heap.size w w'):=leafKindK _ md v k rfl n s a va c vn vc w hk hz hm
theorem oneKind (md:ModelD) (v:ModelV) (T:TypeId) (p:Value) (x:Int) (base:Nat) (va:Option Addr) (vc:Nat) (w:World) (ho:Own w base 5 1 va vc 1 [.int .u8 x]) :
  Calls Tryz.prog 240 #[.agg #[.iface T p],.agg (v.cs md).toArray,.slice va 1 vc] w (fun e w'=>e=tup2 (if x=1 then (1,0) else (0,171))/\Below w.heap.size w w'):=by
 obtain ⟨g,rfl,-,hg,hc,-⟩:=ho.cell (by omega)
 have c0:=hc 0 _ rfl
 clear ho hc
 by_cases h1:x=1
 ·subst h1
  go_enter Tryz.func240,Tryz.ntmps240
  go_wp2_with fail
  go_ret2
  exact ⟨rfl,((Below.refl _ _).alloc (Nat.le_refl _) _).alloc (by rw [size_alloc];omega) _⟩
 have e1:(x != 1)=true:=by simpa using h1
 rw [if_neg h1]
 clear h1
 go_enter Tryz.func240,Tryz.ntmps240
 go_wp2_with fail
 go_ret2
 exact ⟨rfl,((Below.refl _ _).alloc (Nat.le_refl _) _).alloc (by rw [size_alloc];omega) _⟩
def pairK (k:Nat) (x y:Int):Int×Int:=if k=9\/k=10 then (if x=1/\y=1 then (1,0) else (0,171)) else if k=11 then (if y=x then (1,0) else (0,171)) else if x=2/\y=2 then (if k=12 then 1 else 2,0) else (0,171)
theorem pairKind (md:ModelD) (v:ModelV) (k:Nat) (n:Int) (s:ByteArray) (a:Option Addr) (l c:Nat) (T T2:TypeId) (p p2:Value) (x y:Int) (base:Nat) (va:Option Addr) (vc:Nat) (w:World) (hk:9<=k/\k<=15) (ho:Own w base 5 1 va vc 2 [.int .u8 x,.int .u8 y]) :
  Calls Tryz.prog 244 #[.agg #[.int .u8 k,.int .i64 n,.string s,.slice a l c,.iface T p,.iface T2 p2],.agg (v.cs md).toArray,.slice va 2 vc] w (fun e w'=>e=tup2 (pairK k x y)/\Below w.heap.size w w'):=by
 obtain ⟨g,rfl,-,hg,hc,-⟩:=ho.cell (by omega)
 have c0:w.cell? ⟨g,0,none⟩=some (.int .u8 x):=hc 0 _ rfl
 have c1:w.cell? ⟨g,1,none⟩=some (.int .u8 y):=hc 1 _ rfl
 clear ho hc
 have fin:∀r,Ending.returned (.tuple #[.int .u8 r.1,.int .i64 r.2])=tup2 r:=fun r=>rfl
 have key:∀q:Int,(∀z:Int,(z != q)=true↔z≠q):=fun q z=>by simp
 have:k=9\/k=10\/k=11\/k=12\/k=13\/k=14\/k=15:=by omega
 rcases this with rfl | rfl | rfl | rfl | rfl | rfl | rfl
 ·by_cases h1:x=1
  ·subst h1
   by_cases h2:y=1
   ·subst h2
    have HR:Hid (pairK 9 1 1=(1,0)):=by show _=_;simp [pairK]
    clear hk fin key
    go_enter Tryz.func244,Tryz.ntmps244
    go_wp2_with fail
    go_ret2
    rw [HR.out]
    exact ⟨rfl,((Below.refl _ _).alloc (Nat.le_refl _) _).alloc (by rw [size_alloc];omega) _⟩
   have e2:(y != 1)=true:=by simpa using h2
   have HR:Hid (pairK 9 1 y=(0,171)):=by show _=_;simp [pairK,h2]
   clear hk fin key h2
   go_enter Tryz.func244,Tryz.ntmps244
   go_wp2_with fail
   go_ret2
   rw [HR.out]
   exact ⟨rfl,((Below.refl _ _).alloc (Nat.le_refl _) _).alloc (by rw [size_alloc];omega) _⟩
  have e1:(x != 1)=true:=by simpa using h1
  have HR:Hid (pairK 9 x y=(0,171)):=by show _=_;simp [pairK,h1]
  clear hk fin key h1
  go_enter Tryz.func244,Tryz.ntmps244
  go_wp2_with fail
  go_ret2
  rw [HR.out]
  exact ⟨rfl,((Below.refl _ _).alloc (Nat.le_refl _) _).alloc (by rw [size_alloc];omega) _⟩
 ·by_cases h1:x=1
  ·subst h1
   by_cases h2:y=1
   ·subst h2
    have HR:Hid (pairK 10 1 1=(1,0)):=by show _=_;simp [pairK]
    clear hk fin key
    go_enter Tryz.func244,Tryz.ntmps244
    go_wp2_with fail
    go_ret2
    rw [HR.out]
    exact ⟨rfl,((Below.refl _ _).alloc (Nat.le_refl _) _).alloc (by rw [size_alloc];omega) _⟩
   have e2:(y != 1)=true:=by simpa using h2
   have HR:Hid (pairK 10 1 y=(0,171)):=by show _=_;simp [pairK,h2]
   clear hk fin key h2
   go_enter Tryz.func244,Tryz.ntmps244
   go_wp2_with fail
   go_ret2
   rw [HR.out]
   exact ⟨rfl,((Below.refl _ _).alloc (Nat.le_refl _) _).alloc (by rw [size_alloc];omega) _⟩
  have e1:(x != 1)=true:=by simpa using h1
  have HR:Hid (pairK 10 x y=(0,171)):=by show _=_;simp [pairK,h1]
  clear hk fin key h1
  go_enter Tryz.func244,Tryz.ntmps244
  go_wp2_with fail
  go_ret2
  rw [HR.out]
  exact ⟨rfl,((Below.refl _ _).alloc (Nat.le_refl _) _).alloc (by rw [size_alloc];omega) _⟩
 ·by_cases h2:y=x
  ·subst h2
   have e1:(y != y)=false:=by simp
   have HR:Hid (pairK 11 y y=(1,0)):=by show _=_;simp [pairK]
   clear hk fin key
   go_enter Tryz.func244,Tryz.ntmps244
   go_wp2_with fail
   go_ret2
   rw [HR.out]
   exact ⟨rfl,((Below.refl _ _).alloc (Nat.le_refl _) _).alloc (by rw [size_alloc];omega) _⟩
  have e1:(x != x)=false:=by simp
  have e2:(y != x)=true:=by simpa using h2
  have HR:Hid (pairK 11 x y=(0,171)):=by show _=_;simp [pairK,h2]
  clear hk fin key h2
  go_enter Tryz.func244,Tryz.ntmps244
  go_wp2_with fail
  go_ret2
  rw [HR.out]
  exact ⟨rfl,((Below.refl _ _).alloc (Nat.le_refl _) _).alloc (by rw [size_alloc];omega) _⟩
 ·by_cases h1:x=2
  ·subst h1
   by_cases h2:y=2
   ·subst h2
    have HR:Hid (pairK 12 2 2=(1,0)):=by show _=_;simp [pairK]
    clear hk fin key
    go_enter Tryz.func244,Tryz.ntmps244
    go_wp2_with fail
    go_ret2
    rw [HR.out]
    exact ⟨rfl,((Below.refl _ _).alloc (Nat.le_refl _) _).alloc (by rw [size_alloc];omega) _⟩
   have e2:(y != 2)=true:=by simpa using h2
   have HR:Hid (pairK 12 2 y=(0,171)):=by show _=_;simp [pairK,h2]
   clear hk fin key h2
   go_enter Tryz.func244,Tryz.ntmps244
   go_wp2_with fail
   go_ret2
   rw [HR.out]
   exact ⟨rfl,((Below.refl _ _).alloc (Nat.le_refl _) _).alloc (by rw [size_alloc];omega) _⟩
  have e1:(x != 2)=true:=by simpa using h1
  have HR:Hid (pairK 12 x y=(0,171)):=by show _=_;simp [pairK,h1]
  clear hk fin key h1
  go_enter Tryz.func244,Tryz.ntmps244
  go_wp2_with fail
  go_ret2
  rw [HR.out]
  exact ⟨rfl,((Below.refl _ _).alloc (Nat.le_refl _) _).alloc (by rw [size_alloc];omega) _⟩
 ·by_cases h1:x=2
  ·subst h1
   by_cases h2:y=2
   ·subst h2
    have HR:Hid (pairK 13 2 2=(2,0)):=by show _=_;simp [pairK]
    clear hk fin key
    go_enter Tryz.func244,Tryz.ntmps244
    go_wp2_with fail
    go_ret2
    rw [HR.out]
    exact ⟨rfl,((Below.refl _ _).alloc (Nat.le_refl _) _).alloc (by rw [size_alloc];omega) _⟩
   have e2:(y != 2)=true:=by simpa using h2
   have HR:Hid (pairK 13 2 y=(0,171)):=by show _=_;simp [pairK,h2]
   clear hk fin key h2
   go_enter Tryz.func244,Tryz.ntmps244
   go_wp2_with fail
   go_ret2
   rw [HR.out]
   exact ⟨rfl,((Below.refl _ _).alloc (Nat.le_refl _) _).alloc (by rw [size_alloc];omega) _⟩
  have e1:(x != 2)=true:=by simpa using h1
  have HR:Hid (pairK 13 x y=(0,171)):=by show _=_;simp [pairK,h1]
  clear hk fin key h1
  go_enter Tryz.func244,Tryz.ntmps244
  go_wp2_with fail
  go_ret2
  rw [HR.out]
  exact ⟨rfl,((Below.refl _ _).alloc (Nat.le_refl _) _).alloc (by rw [size_alloc];omega) _⟩
 ·by_cases h1:x=2
  ·subst h1
   by_cases h2:y=2
   ·subst h2
    have HR:Hid (pairK 14 2 2=(2,0)):=by show _=_;simp [pairK]
    clear hk fin key
    go_enter Tryz.func244,Tryz.ntmps244
    go_wp2_with fail
    go_ret2
    rw [HR.out]
    exact ⟨rfl,((Below.refl _ _).alloc (Nat.le_refl _) _).alloc (by rw [size_alloc];omega) _⟩
   have e2:(y != 2)=true:=by simpa using h2
   have HR:Hid (pairK 14 2 y=(0,171)):=by show _=_;simp [pairK,h2]
   clear hk fin key h2
   go_enter Tryz.func244,Tryz.ntmps244
   go_wp2_with fail
   go_ret2
   rw [HR.out]
   exact ⟨rfl,((Below.refl _ _).alloc (Nat.le_refl _) _).alloc (by rw [size_alloc];omega) _⟩
  have e1:(x != 2)=true:=by simpa using h1
  have HR:Hid (pairK 14 x y=(0,171)):=by show _=_;simp [pairK,h1]
  clear hk fin key h1
  go_enter Tryz.func244,Tryz.ntmps244
  go_wp2_with fail
  go_ret2
  rw [HR.out]
  exact ⟨rfl,((Below.refl _ _).alloc (Nat.le_refl _) _).alloc (by rw [size_alloc];omega) _⟩
 by_cases h1:x=2
 ·subst h1
  by_cases h2:y=2
  ·subst h2
   have HR:Hid (pairK 15 2 2=(2,0)):=by show _=_;simp [pairK]
   clear hk fin key
   go_enter Tryz.func244,Tryz.ntmps244
   go_wp2_with fail
   go_ret2
   rw [HR.out]
   exact ⟨rfl,((Below.refl _ _).alloc (Nat.le_refl _) _).alloc (by rw [size_alloc];omega) _⟩
  have e2:(y != 2)=true:=by simpa using h2
  have HR:Hid (pairK 15 2 y=(0,171)):=by show _=_;simp [pairK,h2]
  clear hk fin key h2
  go_enter Tryz.func244,Tryz.ntmps244
  go_wp2_with fail
  go_ret2
  rw [HR.out]
  exact ⟨rfl,((Below.refl _ _).alloc (Nat.le_refl _) _).alloc (by rw [size_alloc];omega) _⟩
 have e1:(x != 2)=true:=by simpa using h1
 have HR:Hid (pairK 15 x y=(0,171)):=by show _=_;simp [pairK,h1]
 clear hk fin key h1
 go_enter Tryz.func244,Tryz.ntmps244
 go_wp2_with fail
 go_ret2
 rw [HR.out]
 exact ⟨rfl,((Below.refl _ _).alloc (Nat.le_refl _) _).alloc (by rw [size_alloc];omega) _⟩
theorem judged_walk (md:ModelD) (v:ModelV) (hz:md.Sml):∀(t:GT) (u:Value) (w:World),t.may->NodeV t u->ModelM false (From 0) w md v ->
  Calls Tryz.prog 156 #[u,.agg (v.cs md).toArray] w (fun e w'=>e=tup2 (judg md t)/\Below w.heap.size w w')
 | .leaf k n s,u,w,hm,hv,hM=>by
  obtain ⟨a,c,rfl⟩:=hv
  have hk:1<=k/\k<=7:=by rcases hm with ⟨h,_⟩ | ⟨h,_⟩ | ⟨h,_⟩ | ⟨h,_⟩<;>omega
  exact judged_gen md v _ _ 230 231 [] [] _ w (fun W=>by kernel_rfl) (fun W=>by kernel_rfl) (enters_of Tryz.func230 (by kernel_rfl) rfl) (enters_of Tryz.func231 (by kernel_rfl) rfl) rfl (by simp) (fun W=>leafKids k n s a c W) (fun j h=>absurd h (by simp))
   (fun _ W base va vc hW hO=>leafKind md v k n s a va c 0 vc W hk hz hW) (fun m h=>absurd h (by simp)) hM
 | .one k a,u,w,hm,hv,hM=>by
  obtain ⟨u1,rfl,hu⟩:=hv
  obtain ⟨T,p,rfl⟩:=hu.iface
  refine judged_gen md v _ _ 239 240 [a] [.iface T p] _ w (fun W=>by kernel_rfl) (fun W=>by kernel_rfl) (enters_of Tryz.func239 (by kernel_rfl) rfl) (enters_of Tryz.func240 (by kernel_rfl) rfl) rfl (by simp) (fun W=>oneKids T p W) (fun j h h' W hW=>?_) (fun h0 W base va vc hW hO=>?_) (fun m h hne _=>?_) hM
  ·obtain rfl:j=0:=by simpa using h
   exact judged_walk md v hz a _ W hm.2 hu hW
  ·have h1:=h0 0 (by simp)
   have hR:judg md (.one k a)=if (judg md a).1=1 then (1,0) else (0,171):=by
    have h1:(judg md a).2=0:=h1
    simp only [judg,h1];rfl
   rw [hR]
   exact oneKind md v T p _ base va vc W hO
  obtain rfl:m=0:=by simpa using h
  have hne:(judg md a).2≠0:=hne
  show judg md (.one k a)=(0,(judg md a).2)
  simp only [judg,if_pos hne]
 | .two k a b,u,w,hm,hv,hM=>by
  obtain ⟨n0,s0,p0,l0,c0,u1,u2,rfl,hu1,hu2⟩:=hv
  obtain ⟨T,p,rfl⟩:=hu1.iface
  obtain ⟨T2,p2,rfl⟩:=hu2.iface
  refine judged_gen md v _ _ 243 244 [a,b] [.iface T p,.iface T2 p2] _ w (fun W=>by kernel_rfl) (fun W=>by kernel_rfl) (enters_of Tryz.func243 (by kernel_rfl) rfl) (enters_of Tryz.func244 (by kernel_rfl) rfl) rfl (by simp) (fun W=>pairKids k n0 s0 p0 l0 c0 T T2 p p2 W) (fun j h h' W hW=>?_) (fun h0 W base va vc hW hO=>?_) (fun m h hne hlt=>?_) hM
  ·match j,h with
   | 0,_=>exact judged_walk md v hz a _ W hm.2.1 hu1 hW
   | 1,_=>exact judged_walk md v hz b _ W hm.2.2 hu2 hW
  ·have h1:(judg md a).2=0:=h0 0 (by simp)
   have h2:(judg md b).2=0:=h0 1 (by simp)
   have hR:judg md (.two k a b)=pairK k (judg md a).1 (judg md b).1:=by
    simp only [judg,h1,h2,pairK];rfl
   rw [hR]
   exact pairKind md v k n0 s0 p0 l0 c0 T T2 p p2 _ _ base va vc W hm.1 hO
  match m,h with
  | 0,_ =>
   have hne:(judg md a).2≠0:=hne
   show judg md (.two k a b)=(0,(judg md a).2)
   simp only [judg,if_pos hne]
  | 1,_ =>
   have h1:(judg md a).2=0:=hlt 0 (by omega)
   have hne:(judg md b).2≠0:=hne
   show judg md (.two k a b)=(0,(judg md b).2)
   simp only [judg,h1,if_pos hne];rfl
end Go.Proofs.YtfbbkmdhnkmonaaGreatDoor
