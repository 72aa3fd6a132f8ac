/- Proved, each under the conditions that it names: A model that came in, opened: by types; the bounds are the bulk's; docketref17: Letter, Taken, Named, quotable; docketref17: the reader's block. -/
import Derived.Test.YtfbbkmdhnkmonaaGreatDoorT11
import Derived.Test.YtfbbkmdhnkmonaaGreatDoorRows
import Derived.BigRegion
set_option maxRecDepth 100000
set_option maxHeartbeats 32000000
namespace Go.Proofs.YtfbbkmdhnkmonaaGreatDoor
set_option maxRecDepth 100000
open Go.ChangeShapes Go.WideShapes Go.ChangeAt Go.RowKit Go.Deep
abbrev bulkMax:Nat:=1048576
theorem nil_memO (o:Bool) (P:Nat->Prop) (w:World) (k:Nat):Mem o P w (.list k []) (.slice none 0 0) :=
 .list k [] [] none 0 0 0 rfl (Nat.le_refl _) (fun h=>absurd h (by simp)) (fun j v h=>absurd h (by simp)) (fun j v h=>absurd h (by simp)) (fun j v i u h=>absurd h (by simp)) (fun j v e i u d h=>absurd h (by simp))
theorem bulk_pos {H:Type} (d:DataW H):1<=Rows.uptoBulk d:=by
 cases d with
 | lit l=>cases l<;>simp [Rows.uptoBulk]
 | _=>simp [Rows.uptoBulk]
theorem bulk_len {H:Type}:∀l:List (DataW H),l.length<=Rows.uptoBulkAll l
 | []=>by simp [Rows.uptoBulkAll]
 | d :: r=>by
  have:=bulk_len r
  have:=bulk_pos d
  simp [Rows.uptoBulkAll];omega
theorem bulk_mem {H:Type} {d:DataW H}:∀ {l:List (DataW H)},d∈l->Rows.uptoBulk d<=Rows.uptoBulkAll l
 | y :: r,h=>by
  simp only [Rows.uptoBulkAll]
  rcases List.mem_cons.1 h with rfl | h
  ·omega
  have:=bulk_mem h;omega
section
variable {H:Type} (enc:TypeId×Value->H) (w:World) (base:Nat) (spare:Nat->Bool) (held:Bool)
def Op1 (N:Nat) (t:TypeId) (R:D->Prop):Prop:=∀n,n<N->∀(c:Value) (y:DataW H×List MemPlace),DataW.trod enc Tryz.prog w base spare held n t [c]=some y->Rows.uptoBulk y.1<=bulkMax->∃d,R d/\Mem false (From 0) w d c
def OpL (N:Nat) (t:TypeId) (k:Nat) (R:List D->Prop):Prop:=∀n,n<N->∀(cs:List Value) (y:DataW H×List MemPlace),cs.length=k->DataW.trod enc Tryz.prog w base spare held n t cs=some y->Rows.uptoBulk y.1<=bulkMax->∃ds,R ds/\MemL false (From 0) w ds cs
variable {enc w base spare held}
theorem op1_int (N:Nat) {t:TypeId} {k:IntKind} (ht:Tryz.prog.underlying t=some (.int k)):Op1 enc w base spare held N t (fun d=>∃i,d=.atom (.int k i)):=by
 intro n _ c y h _
 obtain ⟨i,e,-,-⟩:=DataW.trod_int ht h
 injection e with e _
 exact ⟨_,⟨i,rfl⟩,e▸.atom _⟩
theorem op1_str (N:Nat) {t:TypeId} (ht:Tryz.prog.underlying t=some .string):Op1 enc w base spare held N t (fun d=>∃i:ByteArray,i.size<=maxLen/\d=.atom (.string i)):=by
 intro n _ c y h _
 obtain ⟨i,e,-,hs⟩:=DataW.trod_string ht h
 injection e with e _
 exact ⟨_,⟨i,hs,rfl⟩,e▸.atom _⟩
theorem opL_one {N:Nat} {t:TypeId} {R:D->Prop} (h:Op1 enc w base spare held N t R):OpL enc w base spare held N t 1 (fun ds=>∃d,R d/\ds=[d]):=by
 intro n hn cs y hl hy hb
 match cs,hl with
 | [c],_ =>
  obtain ⟨d,hd,hm⟩:=h n hn c y hy hb
  exact ⟨[d],⟨d,hd,rfl⟩,.cons hm (MemL.nil _ _ _)⟩
theorem unmap {α β:Type} (F:α->β) (Q:α->Prop):∀(es:List β) (_:∀x∈es,∃a,Q a/\x=F a),∃ls:List α,es=ls.map F/\∀a∈ls,Q a
 | [],_=>⟨[],rfl,fun a h=>absurd h (by simp)⟩
 | e :: es,h=>by
  obtain ⟨a,ha,rfl⟩:=h e (List.mem_cons_self ..)
  obtain ⟨ls,rfl,hq⟩:=unmap F Q es fun x hx=>h x (List.mem_cons_of_mem _ hx)
  refine ⟨a :: ls,rfl,fun b hb=>?_⟩
  rcases List.mem_cons.1 hb with rfl | hb
  ·exact ha
  exact hq b hb
theorem op1_slice {N:Nat} {t e:TypeId} {k:Nat} {R:List D->Prop} (ht:Tryz.prog.underlying t=some (.slice e)) (he:Tryz.prog.cellsOf e=k) (hk:0<k) (hR:∀ds,R ds->ds.length=k) (el:OpL enc w base spare held N e k R) :
  Op1 enc w base spare held N t (fun d=>∃es:List (List D),es.length<=bulkMax/\(∀x∈es,R x)/\d=.list k es):=by
 intro n hn c y h hb
 rcases DataW.trod_slice ht h with ⟨hcs,hx⟩ | ⟨a,len,cap,elems,rest,m,rfl,hcs,hx,hba,hle,hcap,hlen,hel,-,-⟩
 ·injection hcs with hcs _
  subst hcs
  exact ⟨_,⟨[],by simp,fun x hx=>absurd hx (by simp),rfl⟩,nil_memO _ _ _ _⟩
 injection hcs with hcs _
 subst hcs
 rw [hx] at hb
 simp only [Rows.uptoBulk] at hb
 have hlb:=bulk_len (elems.map (·.1))
 rw [List.length_map] at hlb
 rw [he] at hel
 obtain ⟨zs,hzl,hz⟩:=list_of' (fun (j:Nat) (z:List D×List Value)=>R z.1/\MemL false (From 0) w z.1 z.2/\z.2.length=k/\∀i,i<k->w.cell? ((a.add (j*k)).add i)=z.2[i]?) len fun j hj=>by
  have hej:=hel j hj
  rw [List.getElem?_eq_getElem (by omega)] at hej
  obtain ⟨cs',hc1,hc2⟩:=Option.bind_eq_some_iff.1 hej
  obtain ⟨-,hc3,hc4⟩:=World.cells?_some hc1
  have hbj:=bulk_mem (l:=elems.map (·.1)) (List.mem_map.2 ⟨elems[j]'(by omega),List.getElem_mem _,rfl⟩)
  obtain ⟨ds,hd1,hd2⟩:=el m (by omega) cs' _ hc3 hc2 (by omega)
  exact ⟨(ds,cs'),hd1,hd2,hc3,hc4⟩
 have hsp:0<len->a=⟨a.block,a.off,none⟩/\a.block<w.heap.size:=by
  intro h0
  obtain ⟨-,-,q1,q2⟩:=hz 0 h0
  have:=q2 0 hk
  simp only [Nat.zero_mul,Addr.add_zero'] at this
  rw [List.getElem?_eq_getElem (by omega)] at this
  exact ⟨spot_none this,World.block_lt_of_cell? w _ this⟩
 have hget:∀(j:Nat) (v:List Value),(zs.map (·.2))[j]? = some v->∃hj:j<len,v=zs[j]!.2:=by
  intro j v hv
  have hj:=lt_of_some hv
  rw [List.length_map,hzl] at hj
  refine ⟨hj,?_⟩
  rw [List.getElem?_map,List.getElem?_eq_getElem (by omega)] at hv
  injection hv with hv
  rw [getElem!_pos zs j (by omega),<-hv]
 have hget1:∀(j:Nat) (v:List D),(zs.map (·.1))[j]? = some v->∃hj:j<len,v=zs[j]!.1:=by
  intro j v hv
  have hj:=lt_of_some hv
  rw [List.length_map,hzl] at hj
  refine ⟨hj,?_⟩
  rw [List.getElem?_map,List.getElem?_eq_getElem (by omega)] at hv
  injection hv with hv
  rw [getElem!_pos zs j (by omega),<-hv]
 refine ⟨.list k (zs.map (·.1)),⟨zs.map (·.1),by rw [List.length_map,hzl];omega,fun x hx=>?_,rfl⟩,?_⟩
 ·obtain ⟨z,hzm,rfl⟩:=List.mem_map.1 hx
  obtain ⟨j,hj,rfl⟩:=List.mem_iff_getElem.1 hzm
  have:=(hz j (by omega)).1
  rw [getElem!_pos zs j hj] at this
  exact this
 have hvl:(zs.map (·.2)).length=len:=by rw [List.length_map,hzl]
 have:=Mem.list (o:=false) (P:=From 0) (w:=w) k (zs.map (·.1)) (zs.map (·.2)) (some a) cap a.block a.off (by simp) (by rw [hvl];exact hle) (fun h0=>by
  rw [hvl] at h0
  exact ⟨congrArg some (hsp h0).1,Nat.zero_le _,(hsp h0).2⟩) (fun j v hv=>by
  obtain ⟨hj,rfl⟩:=hget j v hv
  exact (hz j hj).2.2.1) (fun j v hv=>by
  obtain ⟨hj,rfl⟩:=hget1 j v hv
  exact hR _ (hz j hj).1) (fun j v i u hv hu=>by
  obtain ⟨hj,rfl⟩:=hget j v hv
  obtain ⟨-,-,h1,h2⟩:=hz j hj
  have hi:i<k:=by rw [<-h1];exact lt_of_some hu
  have h3:=h2 i hi
  rw [hu,(hsp (by omega)).1,Addr.add_lit,Addr.add_lit] at h3
  exact ⟨h3,fun h=>by cases h⟩) (fun j v e i u d hv he2 hu hd=>by
  obtain ⟨hj,rfl⟩:=hget j v hv
  obtain ⟨_,rfl⟩:=hget1 j e he2
  exact (hz j hj).2.1.2 i d u hd hu)
 rw [hvl] at this
 exact this
theorem op1_recs {N:Nat} {t e:TypeId} {k:Nat} {α:Type} {F:α->List D} {Q:α->Prop} (ht:Tryz.prog.underlying t=some (.slice e)) (he:Tryz.prog.cellsOf e=k) (hk:0<k) (hF:∀a,(F a).length=k) (el:OpL enc w base spare held N e k (fun ds=>∃a,Q a/\ds=F a)) :
  Op1 enc w base spare held N t (fun d=>∃ls:List α,ls.length<=bulkMax/\(∀a∈ls,Q a)/\d=.list k (ls.map F)):=by
 intro n hn c y h hb
 obtain ⟨d,⟨es,hl,hr,rfl⟩,hm⟩:=op1_slice ht he hk (fun ds hd=>by obtain ⟨a,-,rfl⟩:=hd;exact hF a) el n hn c y h hb
 obtain ⟨ls,rfl,hq⟩:=unmap F Q es hr
 exact ⟨_,⟨ls,by simpa using hl,hq,rfl⟩,hm⟩
theorem op1_strs (N:Nat):Op1 enc w base spare held N 26 (fun d=>∃rs:List ByteArray,rs.length<=bulkMax/\(∀s∈rs,s.size<=maxLen)/\d=strD rs):=by
 intro n hn c y h hb
 obtain ⟨d,⟨rs,hl,hq,rfl⟩,hm⟩:=op1_recs (k:=1) (F:=fun s:ByteArray=>[D.atom (.string s)]) (Q:=fun s=>s.size<=maxLen) Tryz.underlying26 (by kernel_rfl) (by omega) (fun _=>rfl) (fun n hn cs y hl hy hb=>by
  obtain ⟨ds,⟨d,⟨i,hi,rfl⟩,rfl⟩,hm⟩:=opL_one (op1_str N Tryz.underlying9) n hn cs y hl hy hb
  exact ⟨_,⟨i,hi,rfl⟩,hm⟩) n hn c y h hb
 exact ⟨_,⟨rs,hl,hq,rfl⟩,hm⟩
theorem opL_sentry (N:Nat):OpL enc w base spare held N 35 3 (fun ds=>∃a:SentryD,True/\ds=(SentryD.cs a).map D.atom):=by
 intro n hn cs y hl h hb
 match cs,hl with
 | [c0,c1,c2],_ =>
  obtain ⟨xs,m,rfl,rfl,-,hlen,hf⟩:=DataW.trod_struct Tryz.underlying35 h
  match xs,hlen with
  | [y0,y1,y2],_ =>
   simp only [List.map_cons,List.map_nil,Rows.uptoBulk,Rows.uptoBulkAll] at hb
   have g0:DataW.trod enc Tryz.prog w base spare held m 5 [c0]=some y0:=by
    have e:Tryz.prog.cellsOf 5=1:=by kernel_rfl
    have:DataW.trod enc Tryz.prog w base spare held m 5 ((([c0,c1,c2]:List Value).drop 0).take (Tryz.prog.cellsOf 5))=some y0:=hf 0 _ rfl
    rw [e] at this
    exact this
   obtain ⟨_,⟨x0,rfl⟩,m0⟩:=(op1_int N Tryz.underlying5) m (by omega) c0 y0 g0 (by omega)
   have g1:DataW.trod enc Tryz.prog w base spare held m 9 [c1]=some y1:=by
    have e:Tryz.prog.cellsOf 9=1:=by kernel_rfl
    have:DataW.trod enc Tryz.prog w base spare held m 9 ((([c0,c1,c2]:List Value).drop 1).take (Tryz.prog.cellsOf 9))=some y1:=hf 1 _ rfl
    rw [e] at this
    exact this
   obtain ⟨_,⟨x1,zx1,rfl⟩,m1⟩:=(op1_str N Tryz.underlying9) m (by omega) c1 y1 g1 (by omega)
   have g2:DataW.trod enc Tryz.prog w base spare held m 9 [c2]=some y2:=by
    have e:Tryz.prog.cellsOf 9=1:=by kernel_rfl
    have:DataW.trod enc Tryz.prog w base spare held m 9 ((([c0,c1,c2]:List Value).drop 2).take (Tryz.prog.cellsOf 9))=some y2:=hf 2 _ rfl
    rw [e] at this
    exact this
   obtain ⟨_,⟨x2,zx2,rfl⟩,m2⟩:=(op1_str N Tryz.underlying9) m (by omega) c2 y2 g2 (by omega)
   exact ⟨_,⟨⟨x0,x1,x2⟩,trivial,rfl⟩,.cons m0 (.cons m1 (.cons m2 (MemL.nil _ _ _)))⟩
theorem op1_sentries (N:Nat):Op1 enc w base spare held N 36 (fun d=>∃ls:List SentryD,ls.length<=bulkMax/\(∀a∈ls,True)/\d=.list 3 (ls.map (fun a=>(SentryD.cs a).map D.atom))) :=
 op1_recs Tryz.underlying36 (by kernel_rfl) (by omega) (fun _=>rfl) (opL_sentry N)
theorem opL_attr (N:Nat):OpL enc w base spare held N 61 2 (fun ds=>∃a:AttrD,a.name.size<=maxLen/\ds=(AttrD.cs a).map D.atom):=by
 intro n hn cs y hl h hb
 match cs,hl with
 | [c0,c1],_ =>
  obtain ⟨xs,m,rfl,rfl,-,hlen,hf⟩:=DataW.trod_struct Tryz.underlying61 h
  match xs,hlen with
  | [y0,y1],_ =>
   simp only [List.map_cons,List.map_nil,Rows.uptoBulk,Rows.uptoBulkAll] at hb
   have g0:DataW.trod enc Tryz.prog w base spare held m 9 [c0]=some y0:=by
    have e:Tryz.prog.cellsOf 9=1:=by kernel_rfl
    have:DataW.trod enc Tryz.prog w base spare held m 9 ((([c0,c1]:List Value).drop 0).take (Tryz.prog.cellsOf 9))=some y0:=hf 0 _ rfl
    rw [e] at this
    exact this
   obtain ⟨_,⟨x0,zx0,rfl⟩,m0⟩:=(op1_str N Tryz.underlying9) m (by omega) c0 y0 g0 (by omega)
   have g1:DataW.trod enc Tryz.prog w base spare held m 5 [c1]=some y1:=by
    have e:Tryz.prog.cellsOf 5=1:=by kernel_rfl
    have:DataW.trod enc Tryz.prog w base spare held m 5 ((([c0,c1]:List Value).drop 1).take (Tryz.prog.cellsOf 5))=some y1:=hf 1 _ rfl
    rw [e] at this
    exact this
   obtain ⟨_,⟨x1,rfl⟩,m1⟩:=(op1_int N Tryz.underlying5) m (by omega) c1 y1 g1 (by omega)
   exact ⟨_,⟨⟨x0,x1⟩,zx0,rfl⟩,.cons m0 (.cons m1 (MemL.nil _ _ _))⟩
theorem op1_attrs (N:Nat):Op1 enc w base spare held N 25 (fun d=>∃ls:List AttrD,ls.length<=bulkMax/\(∀a∈ls,a.name.size<=maxLen)/\d=.list 2 (ls.map (fun a=>(AttrD.cs a).map D.atom))) :=
 op1_recs Tryz.underlying25 (by kernel_rfl) (by omega) (fun _=>rfl) (opL_attr N)
theorem opL_pair (N:Nat):OpL enc w base spare held N 95 2 (fun ds=>∃a:ByteArray×ByteArray,True/\ds=(pairC a).map D.atom):=by
 intro n hn cs y hl h hb
 match cs,hl with
 | [c0,c1],_ =>
  obtain ⟨xs,m,rfl,rfl,-,hlen,hf⟩:=DataW.trod_array Tryz.underlying95 h
  match xs,hlen with
  | [y0,y1],_ =>
   simp only [List.map_cons,List.map_nil,Rows.uptoBulk,Rows.uptoBulkAll] at hb
   have g0:DataW.trod enc Tryz.prog w base spare held m 9 [c0]=some y0:=by
    have e:Tryz.prog.cellsOf 9=1:=by kernel_rfl
    have:DataW.trod enc Tryz.prog w base spare held m 9 ((([c0,c1]:List Value).drop (0*Tryz.prog.cellsOf 9)).take (Tryz.prog.cellsOf 9))=some y0:=hf 0 (by omega)
    rw [e] at this
    exact this
   obtain ⟨_,⟨x0,zx0,rfl⟩,m0⟩:=(op1_str N Tryz.underlying9) m (by omega) c0 y0 g0 (by omega)
   have g1:DataW.trod enc Tryz.prog w base spare held m 9 [c1]=some y1:=by
    have e:Tryz.prog.cellsOf 9=1:=by kernel_rfl
    have:DataW.trod enc Tryz.prog w base spare held m 9 ((([c0,c1]:List Value).drop (1*Tryz.prog.cellsOf 9)).take (Tryz.prog.cellsOf 9))=some y1:=hf 1 (by omega)
    rw [e] at this
    exact this
   obtain ⟨_,⟨x1,zx1,rfl⟩,m1⟩:=(op1_str N Tryz.underlying9) m (by omega) c1 y1 g1 (by omega)
   exact ⟨_,⟨(x0,x1),trivial,rfl⟩,.cons m0 (.cons m1 (MemL.nil _ _ _))⟩
theorem op1_pairs (N:Nat):Op1 enc w base spare held N 29 (fun d=>∃ls:List (ByteArray×ByteArray),ls.length<=bulkMax/\(∀a∈ls,True)/\d=.list 2 (ls.map (fun a=>(pairC a).map D.atom))) :=
 op1_recs Tryz.underlying29 (by kernel_rfl) (by omega) (fun _=>rfl) (opL_pair N)
theorem opL_stage (N:Nat):OpL enc w base spare held N 38 7 (fun ds=>∃a:StageD,(a.opens.length<=1048576/\a.closes.length<=1048576/\a.name.size<=maxLen)/\ds=a.ds):=by
 intro n hn cs y hl h hb
 match cs,hl with
 | [c0,c1,c2,c3,c4,c5,c6],_ =>
  obtain ⟨xs,m,rfl,rfl,-,hlen,hf⟩:=DataW.trod_struct Tryz.underlying38 h
  match xs,hlen with
  | [y0,y1,y2,y3,y4,y5,y6],_ =>
   simp only [List.map_cons,List.map_nil,Rows.uptoBulk,Rows.uptoBulkAll] at hb
   have g0:DataW.trod enc Tryz.prog w base spare held m 9 [c0]=some y0:=by
    have e:Tryz.prog.cellsOf 9=1:=by kernel_rfl
    have:DataW.trod enc Tryz.prog w base spare held m 9 ((([c0,c1,c2,c3,c4,c5,c6]:List Value).drop 0).take (Tryz.prog.cellsOf 9))=some y0:=hf 0 _ rfl
    rw [e] at this
    exact this
   obtain ⟨_,⟨x0,zx0,rfl⟩,m0⟩:=(op1_str N Tryz.underlying9) m (by omega) c0 y0 g0 (by omega)
   have g1:DataW.trod enc Tryz.prog w base spare held m 3 [c1]=some y1:=by
    have e:Tryz.prog.cellsOf 3=1:=by kernel_rfl
    have:DataW.trod enc Tryz.prog w base spare held m 3 ((([c0,c1,c2,c3,c4,c5,c6]:List Value).drop 1).take (Tryz.prog.cellsOf 3))=some y1:=hf 1 _ rfl
    rw [e] at this
    exact this
   obtain ⟨_,⟨x1,rfl⟩,m1⟩:=(op1_int N Tryz.underlying3) m (by omega) c1 y1 g1 (by omega)
   have g2:DataW.trod enc Tryz.prog w base spare held m 36 [c2]=some y2:=by
    have e:Tryz.prog.cellsOf 36=1:=by kernel_rfl
    have:DataW.trod enc Tryz.prog w base spare held m 36 ((([c0,c1,c2,c3,c4,c5,c6]:List Value).drop 2).take (Tryz.prog.cellsOf 36))=some y2:=hf 2 _ rfl
    rw [e] at this
    exact this
   obtain ⟨_,⟨x2,lx2,px2,rfl⟩,m2⟩:=(op1_sentries N) m (by omega) c2 y2 g2 (by omega)
   have g3:DataW.trod enc Tryz.prog w base spare held m 36 [c3]=some y3:=by
    have e:Tryz.prog.cellsOf 36=1:=by kernel_rfl
    have:DataW.trod enc Tryz.prog w base spare held m 36 ((([c0,c1,c2,c3,c4,c5,c6]:List Value).drop 3).take (Tryz.prog.cellsOf 36))=some y3:=hf 3 _ rfl
    rw [e] at this
    exact this
   obtain ⟨_,⟨x3,lx3,px3,rfl⟩,m3⟩:=(op1_sentries N) m (by omega) c3 y3 g3 (by omega)
   have g4:DataW.trod enc Tryz.prog w base spare held m 9 [c4]=some y4:=by
    have e:Tryz.prog.cellsOf 9=1:=by kernel_rfl
    have:DataW.trod enc Tryz.prog w base spare held m 9 ((([c0,c1,c2,c3,c4,c5,c6]:List Value).drop 4).take (Tryz.prog.cellsOf 9))=some y4:=hf 4 _ rfl
    rw [e] at this
    exact this
   obtain ⟨_,⟨x4,zx4,rfl⟩,m4⟩:=(op1_str N Tryz.underlying9) m (by omega) c4 y4 g4 (by omega)
   have g5:DataW.trod enc Tryz.prog w base spare held m 3 [c5]=some y5:=by
    have e:Tryz.prog.cellsOf 3=1:=by kernel_rfl
    have:DataW.trod enc Tryz.prog w base spare held m 3 ((([c0,c1,c2,c3,c4,c5,c6]:List Value).drop 5).take (Tryz.prog.cellsOf 3))=some y5:=hf 5 _ rfl
    rw [e] at this
    exact this
   obtain ⟨_,⟨x5,rfl⟩,m5⟩:=(op1_int N Tryz.underlying3) m (by omega) c5 y5 g5 (by omega)
   have g6:DataW.trod enc Tryz.prog w base spare held m 9 [c6]=some y6:=by
    have e:Tryz.prog.cellsOf 9=1:=by kernel_rfl
    have:DataW.trod enc Tryz.prog w base spare held m 9 ((([c0,c1,c2,c3,c4,c5,c6]:List Value).drop 6).take (Tryz.prog.cellsOf 9))=some y6:=hf 6 _ rfl
    rw [e] at this
    exact this
   obtain ⟨_,⟨x6,zx6,rfl⟩,m6⟩:=(op1_str N Tryz.underlying9) m (by omega) c6 y6 g6 (by omega)
   exact ⟨_,⟨⟨x0,x1,x2,x3,x4,x5,x6⟩,⟨lx2,lx3,zx0⟩,rfl⟩,.cons m0 (.cons m1 (.cons m2 (.cons m3 (.cons m4 (.cons m5 (.cons m6 (MemL.nil _ _ _)))))))⟩
theorem op1_stages (N:Nat):Op1 enc w base spare held N 27 (fun d=>∃ls:List StageD,ls.length<=bulkMax/\(∀a∈ls,(a.opens.length<=1048576/\a.closes.length<=1048576/\a.name.size<=maxLen))/\d=.list 7 (ls.map StageD.ds)) :=
 op1_recs Tryz.underlying27 (by kernel_rfl) (by omega) (fun _=>rfl) (opL_stage N)
theorem opL_stone (N:Nat):OpL enc w base spare held N 58 3 (fun ds=>∃a:StoneD,(a.done.length<=1048576/\a.undo.length<=1048576/\a.name.size<=maxLen)/\ds=a.ds):=by
 intro n hn cs y hl h hb
 match cs,hl with
 | [c0,c1,c2],_ =>
  obtain ⟨xs,m,rfl,rfl,-,hlen,hf⟩:=DataW.trod_struct Tryz.underlying58 h
  match xs,hlen with
  | [y0,y1,y2],_ =>
   simp only [List.map_cons,List.map_nil,Rows.uptoBulk,Rows.uptoBulkAll] at hb
   have g0:DataW.trod enc Tryz.prog w base spare held m 9 [c0]=some y0:=by
    have e:Tryz.prog.cellsOf 9=1:=by kernel_rfl
    have:DataW.trod enc Tryz.prog w base spare held m 9 ((([c0,c1,c2]:List Value).drop 0).take (Tryz.prog.cellsOf 9))=some y0:=hf 0 _ rfl
    rw [e] at this
    exact this
   obtain ⟨_,⟨x0,zx0,rfl⟩,m0⟩:=(op1_str N Tryz.underlying9) m (by omega) c0 y0 g0 (by omega)
   have g1:DataW.trod enc Tryz.prog w base spare held m 36 [c1]=some y1:=by
    have e:Tryz.prog.cellsOf 36=1:=by kernel_rfl
    have:DataW.trod enc Tryz.prog w base spare held m 36 ((([c0,c1,c2]:List Value).drop 1).take (Tryz.prog.cellsOf 36))=some y1:=hf 1 _ rfl
    rw [e] at this
    exact this
   obtain ⟨_,⟨x1,lx1,px1,rfl⟩,m1⟩:=(op1_sentries N) m (by omega) c1 y1 g1 (by omega)
   have g2:DataW.trod enc Tryz.prog w base spare held m 36 [c2]=some y2:=by
    have e:Tryz.prog.cellsOf 36=1:=by kernel_rfl
    have:DataW.trod enc Tryz.prog w base spare held m 36 ((([c0,c1,c2]:List Value).drop 2).take (Tryz.prog.cellsOf 36))=some y2:=hf 2 _ rfl
    rw [e] at this
    exact this
   obtain ⟨_,⟨x2,lx2,px2,rfl⟩,m2⟩:=(op1_sentries N) m (by omega) c2 y2 g2 (by omega)
   exact ⟨_,⟨⟨x0,x1,x2⟩,⟨lx1,lx2,zx0⟩,rfl⟩,.cons m0 (.cons m1 (.cons m2 (MemL.nil _ _ _)))⟩
theorem op1_stones (N:Nat):Op1 enc w base spare held N 28 (fun d=>∃ls:List StoneD,ls.length<=bulkMax/\(∀a∈ls,(a.done.length<=1048576/\a.undo.length<=1048576/\a.name.size<=maxLen))/\d=.list 3 (ls.map StoneD.ds)) :=
 op1_recs Tryz.underlying28 (by kernel_rfl) (by omega) (fun _=>rfl) (opL_stone N)
theorem opL_model (N:Nat):OpL enc w base spare held N 31 6 (fun ds=>∃a:ModelD,(a.Sml/\a.Txt)/\ds=a.ds):=by
 intro n hn cs y hl h hb
 match cs,hl with
 | [c0,c1,c2,c3,c4,c5],_ =>
  obtain ⟨xs,m,rfl,rfl,-,hlen,hf⟩:=DataW.trod_struct Tryz.underlying31 h
  match xs,hlen with
  | [y0,y1,y2,y3,y4,y5],_ =>
   simp only [List.map_cons,List.map_nil,Rows.uptoBulk,Rows.uptoBulkAll] at hb
   have g0:DataW.trod enc Tryz.prog w base spare held m 9 [c0]=some y0:=by
    have e:Tryz.prog.cellsOf 9=1:=by kernel_rfl
    have:DataW.trod enc Tryz.prog w base spare held m 9 ((([c0,c1,c2,c3,c4,c5]:List Value).drop 0).take (Tryz.prog.cellsOf 9))=some y0:=hf 0 _ rfl
    rw [e] at this
    exact this
   obtain ⟨_,⟨x0,zx0,rfl⟩,m0⟩:=(op1_str N Tryz.underlying9) m (by omega) c0 y0 g0 (by omega)
   have g1:DataW.trod enc Tryz.prog w base spare held m 25 [c1]=some y1:=by
    have e:Tryz.prog.cellsOf 25=1:=by kernel_rfl
    have:DataW.trod enc Tryz.prog w base spare held m 25 ((([c0,c1,c2,c3,c4,c5]:List Value).drop 1).take (Tryz.prog.cellsOf 25))=some y1:=hf 1 _ rfl
    rw [e] at this
    exact this
   obtain ⟨_,⟨x1,lx1,px1,rfl⟩,m1⟩:=(op1_attrs N) m (by omega) c1 y1 g1 (by omega)
   have g2:DataW.trod enc Tryz.prog w base spare held m 26 [c2]=some y2:=by
    have e:Tryz.prog.cellsOf 26=1:=by kernel_rfl
    have:DataW.trod enc Tryz.prog w base spare held m 26 ((([c0,c1,c2,c3,c4,c5]:List Value).drop 2).take (Tryz.prog.cellsOf 26))=some y2:=hf 2 _ rfl
    rw [e] at this
    exact this
   obtain ⟨_,⟨x2,lx2,px2,rfl⟩,m2⟩:=(op1_strs N) m (by omega) c2 y2 g2 (by omega)
   have g3:DataW.trod enc Tryz.prog w base spare held m 27 [c3]=some y3:=by
    have e:Tryz.prog.cellsOf 27=1:=by kernel_rfl
    have:DataW.trod enc Tryz.prog w base spare held m 27 ((([c0,c1,c2,c3,c4,c5]:List Value).drop 3).take (Tryz.prog.cellsOf 27))=some y3:=hf 3 _ rfl
    rw [e] at this
    exact this
   obtain ⟨_,⟨x3,lx3,px3,rfl⟩,m3⟩:=(op1_stages N) m (by omega) c3 y3 g3 (by omega)
   have g4:DataW.trod enc Tryz.prog w base spare held m 28 [c4]=some y4:=by
    have e:Tryz.prog.cellsOf 28=1:=by kernel_rfl
    have:DataW.trod enc Tryz.prog w base spare held m 28 ((([c0,c1,c2,c3,c4,c5]:List Value).drop 4).take (Tryz.prog.cellsOf 28))=some y4:=hf 4 _ rfl
    rw [e] at this
    exact this
   obtain ⟨_,⟨x4,lx4,px4,rfl⟩,m4⟩:=(op1_stones N) m (by omega) c4 y4 g4 (by omega)
   have g5:DataW.trod enc Tryz.prog w base spare held m 29 [c5]=some y5:=by
    have e:Tryz.prog.cellsOf 29=1:=by kernel_rfl
    have:DataW.trod enc Tryz.prog w base spare held m 29 ((([c0,c1,c2,c3,c4,c5]:List Value).drop 5).take (Tryz.prog.cellsOf 29))=some y5:=hf 5 _ rfl
    rw [e] at this
    exact this
   obtain ⟨_,⟨x5,lx5,px5,rfl⟩,m5⟩:=(op1_pairs N) m (by omega) c5 y5 g5 (by omega)
   exact ⟨_,⟨⟨x0,x1,x2,x3,x4,x5⟩,⟨⟨lx1,lx2,lx3,lx4,lx5,fun s hs=>⟨(px3 s hs).1,(px3 s hs).2.1⟩,fun s hs=>⟨(px4 s hs).1,(px4 s hs).2.1⟩⟩,⟨px1,px2,fun s hs=>(px3 s hs).2.2,fun s hs=>(px4 s hs).2.2⟩⟩,rfl⟩,.cons m0 (.cons m1 (.cons m2 (.cons m3 (.cons m4 (.cons m5 (MemL.nil _ _ _))))))⟩
end
theorem ModelD.cells {o:Bool} {P:Nat->Prop} {w:World} {r:ModelD} {us:List Value} (h:MemL o P w r.ds us):∃v:ModelV,us=v.cs r/\ModelM o P w r v:=by
 obtain ⟨x0,y0,rfl,h0,h⟩:=MemL.inv h
 obtain ⟨x1,y1,rfl,h1,h⟩:=h.inv
 obtain ⟨x2,y2,rfl,h2,h⟩:=h.inv
 obtain ⟨x3,y3,rfl,h3,h⟩:=h.inv
 obtain ⟨x4,y4,rfl,h4,h⟩:=h.inv
 obtain ⟨x5,y5,rfl,h5,h⟩:=h.inv
 obtain rfl:=h.inv0
 obtain ⟨a1,c1,_,_,rfl,-,-⟩:=flat_open h1
 obtain ⟨a2,c2,_,_,rfl,-,-⟩:=flat_open h2
 obtain ⟨a3,c3,_,_,rfl,-,-⟩:=rec_open h3
 obtain ⟨a4,c4,_,_,rfl,-,-⟩:=rec_open h4
 obtain ⟨a5,c5,_,_,rfl,-,-⟩:=flat_open h5
 exact ⟨⟨a1,c1,a2,c2,a3,c3,a4,c4,a5,c5⟩,by rw [h0.atomInv],h1,h2,h3,h4,h5⟩
end Go.Proofs.YtfbbkmdhnkmonaaGreatDoor
namespace Go.Proofs.YtfbbkmdhnkmonaaGreatDoor
open Go.RowKit
theorem rfLetter_walk (c:UInt8) (w:World):Calls Tryz.prog 66 #[.int .u8 (c.toNat:Int)] w fun e w'=>e=.returned (.bool (letterB c))/\w=w':=by
 obtain ⟨n,hn⟩:∃n,c.toNat=n:=⟨_,rfl⟩
 have e:letterB c=(decide (97<=n/\n<=122)||decide (48<=n/\n<=57)||decide (n=45)||decide (n=95)||decide (n=46)):=by
  have h:∀k:UInt8,(c==k)=decide (n=k.toNat):=fun k=>by
   rw [Bool.eq_iff_iff,beq_iff_eq,decide_eq_true_eq,<-hn]
   exact UInt8.toNat_inj.symm
  rw [letterB,hn,h,h,h];rfl
 have hn2:n<256:=by have:=c.toNat_lt;omega
 rw [hn,e]
 clear e hn
 go_enter Tryz.func66,Tryz.ntmps66
 go_wp2
 all_goals (go_ret;exact ⟨ret_bool (by first | rfl | (rw [Bool.eq_iff_iff];simp<;>omega)),rfl⟩)
theorem rfQuot_walk (s:ByteArray) (w:World) (hs:s.size<=maxLen) :
  Calls Tryz.prog 158 #[.string s] w fun e w'=>e=.returned (.bool (s.data.toList.all quotB))/\w=w':=by
 unfold maxLen at hs
 obtain ⟨R,hR⟩:∃R,s.data.toList.all quotB=R:=⟨_,rfl⟩
 rw [hR]
 have HR:=hid hR
 clear hR
 go_enter Tryz.func158,Tryz.ntmps158
 go_wp2
 go_loop [3] (fun i=>∃k:Nat,k<=s.size/\i=.int .i64 k/\(s.data.toList.take k).all quotB=true) (fun i=>s.size-(intOf i).toNat)
 case atStart=>exact ⟨0,by omega,rfl,by simp⟩
 obtain ⟨k,hk,rfl,hall⟩:=hrel
 by_cases hlt:k<s.size
 ·have Hall:=hid hall;clear hall
  have HQ:=hid (quot_eq (s[k]'hlt))
  obtain ⟨c,hc⟩:∃c,(s[k]'hlt).toNat=c:=⟨_,rfl⟩
  rw [hc] at HQ
  have HC:=hid hc
  go_wp2
  all_goals first
   | (go_ret;exact ⟨ret_bool (by rw [<-HR.out,all_no hlt (by rw [HQ.out];simp only [quotR];simp at *;omega)]),rfl⟩)
   | (
     go_round
     case rel=>exact ⟨k+1,by omega,by go_num,all_snoc hlt Hall.out (by rw [HQ.out];simp only [quotR];simp at *;omega)⟩
     case measure=>simp [intOf];omega)
 go_wp2
 go_ret
 exact ⟨ret_bool (by rw [<-HR.out,all_end hlt hall]),rfl⟩
theorem takenB_list (s:ByteArray):takenB s=((s.toList==[97,110,100])||(s.toList==[111,114])||(s.toList==[110,111,116])||(s.toList==[116,114,117,101])||(s.toList==[102,97,108,115,101])||(s.toList==[111,112,101,110])||(s.toList==[100,111,110,101])):=by
 have h:takenB s=((s.toList==andS.toList)||(s.toList==orS.toList)||(s.toList==notS.toList)||(s.toList==trueS.toList)||(s.toList==falseS.toList)||(s.toList==openS.toList)||(s.toList==doneS.toList)):=by
  simp only [ba_eq]
  rw [takenB,Bool.eq_iff_iff]
  simp only [Bool.or_eq_true,decide_eq_true_eq,or_assoc]
 rw [h]
 simp only [Go.ByteArray.toList_eq]
theorem rfTaken_walk (s:ByteArray) (w:World) :
  Calls Tryz.prog 65 #[.string s] w fun e w'=>e=.returned (.bool (takenB s))/\w=w':=by
 rw [takenB_list]
 obtain ⟨l,hl⟩:∃l,s.toList=l:=⟨_,rfl⟩
 rw [hl]
 go_enter Tryz.func65,Tryz.ntmps65
 go_wp2
 all_goals (go_ret;exact ⟨ret_bool (by simp_all),rfl⟩)
theorem rfNamed_walk (s:ByteArray) (w:World) (hs:s.size<=maxLen) :
  Calls Tryz.prog 27 #[.string s] w fun e w'=>e=.returned (.bool (namedG s))/\w=w':=by
 unfold maxLen at hs
 obtain ⟨R,hR⟩:∃R,namedG s=R:=⟨_,rfl⟩
 rw [hR]
 have HT:=hid (rfTaken_walk s)
 obtain ⟨T,hT⟩:∃T,takenB s=T:=⟨_,rfl⟩
 rw [hT] at HT
 rw [namedG,hT] at hR
 by_cases he:s.toList=[]
 ·have h0:s.size=0:=by rw [Go.ByteArray.toList_eq] at he;rw [<-ba_len,he];rfl
  have HR:Hid (R=false):=by show _=_;rw [<-hR,decide_eq_false (by omega)];rfl
  clear hR hT HT
  go_enter Tryz.func27,Tryz.ntmps27
  go_wp2
  go_ret
  exact ⟨ret_bool HR.out.symm,rfl⟩
 have h0:0<s.size:=by
  rcases Nat.eq_zero_or_pos s.size with h | h
  ·exact absurd (by rw [Go.ByteArray.toList_eq];exact List.eq_nil_of_length_eq_zero h) he
  exact h
 have hz:s.toList.isEmpty=false:=by simpa using he
 have i0:(0:Int)<(s.size:Int):=by omega
 rw [decide_eq_true h0] at hR
 by_cases hl:32<(s.size:Int)
 ·have HR:Hid (R=false):=by show _=_;rw [<-hR,decide_eq_false (by omega)];rfl
  clear hR hT HT
  go_enter Tryz.func27,Tryz.ntmps27
  go_wp2
  go_ret
  exact ⟨ret_bool HR.out.symm,rfl⟩
 rw [decide_eq_true (show s.size<=32 by omega)] at hR
 obtain ⟨c,hc⟩:∃c,(s[0]'h0).toNat=c:=⟨_,rfl⟩
 have hhd:(s.data.toList.headD 0).toNat=c:=by
  rw [<-hc]
  have:s.data.toList=s[0] :: s.data.toList.drop 1:=by
   rw [<-List.drop_zero (l:=s.data.toList),List.drop_eq_getElem_cons (by rw [ba_len];omega)];rfl
  rw [this];rfl
 rw [hhd] at hR
 have HC:=hid hc
 by_cases hlo:(c:Int)<97
 ·have HR:Hid (R=false):=by show _=_;rw [<-hR,decide_eq_false (show ¬(97<=c/\c<=122) by omega)];rfl
  clear hR hT HT hhd
  go_enter Tryz.func27,Tryz.ntmps27
  go_wp2
  go_ret
  exact ⟨ret_bool HR.out.symm,rfl⟩
 by_cases hhi:122<(c:Int)
 ·have HR:Hid (R=false):=by show _=_;rw [<-hR,decide_eq_false (show ¬(97<=c/\c<=122) by omega)];rfl
  clear hR hT HT hhd
  go_enter Tryz.func27,Tryz.ntmps27
  go_wp2
  go_ret
  exact ⟨ret_bool HR.out.symm,rfl⟩
 rw [decide_eq_true (show 97<=c/\c<=122 by omega)] at hR
 cases T with
 | true =>
  have HR:Hid (R=false):=by show _=_;rw [<-hR];rfl
  clear hR hT hhd
  go_enter Tryz.func27,Tryz.ntmps27
  go_wp2_with (go_at_call 65;refine (HT.out _).mono ?_;rintro e w2 ⟨rfl,rfl⟩)
  go_ret
  exact ⟨ret_bool HR.out.symm,rfl⟩
 | false =>
  have HR:Hid (R=s.data.toList.all letterB):=by show _=_;rw [<-hR];rfl
  have HLW:=hid rfLetter_walk
  clear hR hT hhd
  go_enter Tryz.func27,Tryz.ntmps27
  go_wp2_with (go_at_call 65;refine (HT.out _).mono ?_;rintro e w2 ⟨rfl,rfl⟩)
  go_loop [3] (fun i=>∃k:Nat,k<=s.size/\i=.int .i64 k/\(s.data.toList.take k).all letterB=true) (fun i=>s.size-(intOf i).toNat)
  case atStart=>exact ⟨0,by omega,rfl,by simp⟩
  obtain ⟨k,hk,rfl,hall⟩:=hrel
  by_cases hlt:k<s.size
  ·have Hall:=hid hall;clear hall
   have HLK:=hid (HLW.out (s[k]'hlt))
   obtain ⟨b,hb⟩:∃b,letterB (s[k]'hlt)=b:=⟨_,rfl⟩
   rw [hb] at HLK
   have HB:=hid hb
   clear hb
   cases b with
   | false =>
    go_wp2_with (go_at_call 66;refine (HLK.out _).mono ?_;rintro e w2 ⟨rfl,rfl⟩)
    go_ret
    exact ⟨ret_bool (by rw [HR.out,all_no hlt HB.out]),rfl⟩
   | true =>
    go_wp2_with (go_at_call 66;refine (HLK.out _).mono ?_;rintro e w2 ⟨rfl,rfl⟩)
    go_round
    case rel=>exact ⟨k+1,by omega,by go_num,all_snoc hlt Hall.out HB.out⟩
    case measure=>simp [intOf];omega
  have HA:=hid (all_end hlt hall)
  go_wp2
  go_ret
  exact ⟨ret_bool (by rw [HR.out,HA.out]),rfl⟩
def RfIs (R:Nat) (w:World) (s:ByteArray):Except Nat GSt->Prop
 | .ok st=>Arr w R 155 [.string s,.int .i64 (st.i:Int),.int .i64 (st.pos:Int),.string st.now,.bool false,.int .i64 0]
 | .error a=>∃i p:Nat,Arr w R 155 [.string s,.int .i64 (i:Int),.int .i64 (p:Int),.string ⟨#[]⟩,.bool true,.int .i64 (a:Int)]
theorem RfIs.lt {R:Nat} {w:World} {s:ByteArray}:∀ {x:Except Nat GSt},RfIs R w s x->R<w.heap.size
 | .ok _,h=>Arr.lt h
 | .error _,⟨_,_,h⟩=>h.lt
theorem RfIs.below {R:Nat} {w w':World} {s:ByteArray} (hb:Below w.heap.size w w'):∀ {x:Except Nat GSt},RfIs R w s x->RfIs R w' s x
 | .ok _,h=>⟨(hb.block R (Arr.lt h)).trans h.heap⟩
 | .error _,⟨i,p,h⟩=>⟨i,p,⟨(hb.block R h.lt).trans h.heap⟩⟩
theorem rf_cells {R:Nat} {w:World} {t:TypeId} {a b c d e f:Value} (h:Arr w R t [a,b,c,d,e,f]):w.cell? ⟨R,0,none⟩=some a/\w.cell? ⟨R,1,none⟩=some b/\w.cell? ⟨R,2,none⟩=some c/\w.cell? ⟨R,3,none⟩=some d/\w.cell? ⟨R,4,none⟩=some e/\w.cell? ⟨R,5,none⟩=some f :=
 ⟨h.cell (j:=0) (by simp),h.cell (j:=1) (by simp),h.cell (j:=2) (by simp),h.cell (j:=3) (by simp),h.cell (j:=4) (by simp),h.cell (j:=5) (by simp)⟩
def Four (cs:List Value):Prop:=∃(k:Nat) (n:Int) (s:ByteArray) (a:Option Addr) (l c:Nat),cs=[.int .u8 k,.int .i64 n,.string s,.slice a l c]
def RfEnd (R:Nat) (s:ByteArray) (p:Nat->PR) (st:GSt) (w:World) (e:Ending) (w':World):Prop :=
 KeepR R w w'/\∃fu r,p fu=some r/\∃cs:List Value,e=.returned (.agg cs.toArray)/\match r with
  | .ok (g,st1)=>GIs (fun k=>k<w.heap.size) w' g cs/\RfIs R w' s (.ok st1)/\GS s st1/\st.pos<=st1.pos
  | .error a=>Four cs/\RfIs R w' s (.error a)
def RfSub (R:Nat) (s:ByteArray) (N:Nat) (F:FuncId) (nt:NT):Prop :=
 ∀(st:GSt) (w:World),s.size-st.pos<N->GS s st->RfIs R w s (.ok st)->Calls Tryz.prog F #[.pointer (some ⟨R,0,none⟩)] w (RfEnd R s (fun fu=>pars s fu nt st) st w)
def RfBad (R:Nat) (s:ByteArray) (F:FuncId):Prop :=
 ∀(a:Nat) (w:World),RfIs R w s (.error a)->Calls Tryz.prog F #[.pointer (some ⟨R,0,none⟩)] w fun e w'=>KeepR R w w'/\∃cs:List Value,e=.returned (.agg cs.toArray)/\Four cs/\RfIs R w' s (.error a)
def IntEnd (V:Nat) (w:World) (e:Ending) (w':World):Prop :=
 (∃n b,e=.returned (.tuple #[.int .i64 n,.bool b])/\b=decide (V<=9223372036854775807)/\(b=true->n=(V:Int)))/\w=w'
theorem rfInt_walk (D:ByteArray) (w:World) (hs:D.size<=17000) (hne:D.data.toList≠[]) (hd:D.data.toList.all digitB=true) (hgt:19<D.size->9223372036854775807<spell 0 D.data.toList) :
  Calls Tryz.prog 157 #[.string D] w (IntEnd (spell 0 D.data.toList) w):=by
 have h0:0<D.size:=by rw [<-ba_len];exact List.length_pos_iff.2 hne
 have i0:(0:Int)<(D.size:Int):=by omega
 have hc0:digitB (D[0]'h0)=true:=List.all_eq_true.1 hd _ (by simp [ByteArray.getElem_eq_getElem_data])
 have d0:(((D[0]'h0).toNat:Int)==45)=false:=by
  simp only [digitB,decide_eq_true_eq] at hc0
  rw [beq_eq_false_iff_ne];omega
 have HD:=hid hd
 obtain ⟨V,hV⟩:∃V,spell 0 D.data.toList=V:=⟨_,rfl⟩
 rw [hV] at hgt ⊢
 have HV:=hid hV
 by_cases hbig:19<D.size
 ·have i1:(19:Int)<(D.size:Int):=by omega
  have HF:=hid (hgt hbig)
  clear hbig hgt hV hd hne hc0
  go_enter Tryz.func157,Tryz.ntmps157
  go_wp2_with fail
  go_ret2
  exact ⟨⟨_,_,rfl,by have:=HF.out;symm;rw [decide_eq_false_iff_not];omega,fun h=>absurd h (by decide)⟩,rfl⟩
 have i1:¬(19:Int)<(D.size:Int):=by omega
 have hdg:∀(k:Nat) (h:k<D.size),48<=(D[k]'h).toNat/\(D[k]'h).toNat<=57:=fun k h=>by
  have:=List.all_eq_true.1 HD.out (D[k]'h) (by simp [ByteArray.getElem_eq_getElem_data])
  simpa [digitB] using this
 have HDG:=hid hdg
 clear hdg hc0 hne hgt hbig
 by_cases hle:V<=9223372036854775807
 ·have HL:=hid hle
  clear hle
  have HSN:=hid (fun (k:Nat) (h:k<D.size)=>spell_snocG h)
  have HMO:=hid (fun (k:Nat)=>(show spell 0 (D.data.toList.take k)<=V by have:=spell_mono D k;rw [HV.out] at this;exact this))
  have hcase:(((D.size:Int)==19)=true/\(Op.bytesLess D.toList leastS||D.toList==leastS)=true)\/((D.size:Int)==19)=false:=by
   by_cases h19:D.size=19
   ·have hgt:=least_gt (l:=D.toList) (by rw [Go.ByteArray.toList_eq,ba_len];exact h19) (by rw [Go.ByteArray.toList_eq];exact hd)
    refine .inl ⟨by rw [h19];rfl,?_⟩
    rw [hgt,decide_eq_true_eq,Go.ByteArray.toList_eq,HV.out];exact HL.out
   exact .inr (by rw [beq_eq_false_iff_ne];omega)
  have HT:Hid (spell 0 (D.data.toList.take D.size)=V):=by show _=_;rw [List.take_of_length_le (by rw [ba_len];exact Nat.le_refl _)];exact HV.out
  have H0:Hid (spell 0 (D.data.toList.take 0)=0):=id rfl
  clear hV hd
  rcases hcase with ⟨g19,e⟩ | g19
  all_goals
   go_enter Tryz.func157,Tryz.ntmps157
   go_wp2_with fail
   go_loop [7,8] (fun n i=>∃k:Nat,k<=D.size/\n=.int .i64 (-(spell 0 (D.data.toList.take k):Int))/\i=.int .i64 (k:Int)) (fun _ i=>D.size-(intOf i).toNat)
   case atStart=>exact ⟨0,Nat.zero_le _,by rw [H0.out];rfl,rfl⟩
   obtain ⟨k,hk,rfl,rfl⟩:=hrel
   by_cases hlt:k<D.size
   ·have hsn:=HSN.out k hlt
    have hmo:=HMO.out (k+1)
    have hdgk:=HDG.out k hlt
    obtain ⟨c,hc⟩:∃c,(D[k]'hlt).toNat=c:=⟨_,rfl⟩
    rw [hc] at hsn hdgk
    have HC:=hid hc
    have hl:=HL.out
    rw [hsn] at hmo
    have HS:=hid hsn
    clear hsn hc
    generalize spell 0 (D.data.toList.take k)=p at *
    have wr1:wrap64 (10 * -(p:Int)) = -(10*(p:Int)):=by rw [IntWalk.wrap64_in _ (by omega)];omega
    have wr2:wrap64 (-(10*(p:Int))-((c:Int)-48) % 256) = -((p*10+(c-48):Nat):Int):=by rw [IntWalk.wrap64_in _ (by omega)];omega
    have wr3:IntKind.i64.wrap ((k:Int)+1)=(k:Int)+1:=wrap_i64 (by omega) (by omega)
    clear hl hmo
    go_wp2_with fail
    rw [HC.out]
    go_wp2_with fail
    go_round
    case rel=>exact ⟨k+1,by omega,by rw [HS.out,wr2],rfl⟩
    case measure=>simp only [intOf];omega
   obtain rfl:k=D.size:=by omega
   have ht:=HT.out
   rw [ht]
   have hl:=HL.out
   have wr0:wrap64 (V:Int)=(V:Int):=IntWalk.wrap64_in _ (by omega)
   clear ht hl
   go_wp2_with fail
   go_ret2
   exact ⟨⟨_,_,rfl,(decide_eq_true HL.out).symm,fun _=>rfl⟩,rfl⟩
 have h19:D.size=19:=by
  by_cases h:D.size=19
  ·exact h
  exact absurd (hV▸spell_small hd (by rw [ba_len];omega)) hle
 have g19:((D.size:Int)==19)=true:=by rw [h19];rfl
 have hgt:=least_gt (l:=D.toList) (by rw [Go.ByteArray.toList_eq,ba_len];exact h19) (by rw [Go.ByteArray.toList_eq];exact hd)
 have e:(Op.bytesLess D.toList leastS||D.toList==leastS)=false:=by rw [hgt,decide_eq_false_iff_not,Go.ByteArray.toList_eq,HV.out];exact hle
 have HL:=hid hle
 clear hgt hV hd h19 hle
 go_enter Tryz.func157,Tryz.ntmps157
 go_wp2_with fail
 go_ret2
 exact ⟨⟨_,_,rfl,(decide_eq_false HL.out).symm,fun h=>absurd h (by decide)⟩,rfl⟩
theorem tw_s {p:UInt8->Bool} (s:ByteArray) (f k:Nat) (h:f<s.size) (hk:((s.data.toList.drop (f+1)).takeWhile p).length+1=k) :
  f+k<=s.size/\(∀(j:Nat) (_:1<=j) (_:j<k) (h2:f+j<s.size),p (s[f+j]'h2)=true)/\(∀(h2:f+k<s.size),p (s[f+k]'h2)=false):=by
 have h1:=takeWhile_le (p:=p) (s.data.toList.drop (f+1))
 rw [List.length_drop,ba_len] at h1
 refine ⟨by omega,fun j h1 h2 h3=>?_,fun h3=>?_⟩
 ·have:=tw_lt (p:=p) (s.data.toList.drop (f+1)) (j-1) (by omega) (by rw [List.length_drop,ba_len];omega)
  rw [List.getElem_drop] at this
  have e:f+1+(j-1)=f+j:=by omega
  simp only [e] at this
  exact this
 have:=tw_at (p:=p) (s.data.toList.drop (f+1)) (by rw [List.length_drop,ba_len];omega)
 rw [List.getElem_drop] at this
 have e:f+1+((s.data.toList.drop (f+1)).takeWhile p).length=f+k:=by omega
 simp only [e] at this
 exact this
theorem drop_cons (s:ByteArray) (f:Nat) (h:f<s.size):s.data.toList.drop f=s[f] :: s.data.toList.drop (f+1):=by
 rw [List.drop_eq_getElem_cons (by rw [ba_len];exact h)];rfl
theorem ext_tw {p:UInt8->Bool} (s:ByteArray) (f k:Nat) (hk:((s.data.toList.drop (f+1)).takeWhile p).length+1=k):(s.extract (f+1) (f+k)).data.toList=(s.data.toList.drop (f+1)).takeWhile p:=by
 rw [ByteArray.data_extract,Array.toList_extract]
 show (s.data.toList.drop (f+1)).take (f+k-(f+1))=_
 rw [show f+k-(f+1)=((s.data.toList.drop (f+1)).takeWhile p).length by omega,take_takeWhile]
theorem ext_tw0 {p:UInt8->Bool} (s:ByteArray) (f k:Nat) (h:f<s.size) (hk:((s.data.toList.drop (f+1)).takeWhile p).length+1=k):(s.extract f (f+k)).data.toList=s[f] :: (s.data.toList.drop (f+1)).takeWhile p:=by
 rw [ByteArray.data_extract,Array.toList_extract]
 show (s.data.toList.drop f).take (f+k-f)=_
 rw [drop_cons s f h,show f+k-f=((s.data.toList.drop (f+1)).takeWhile p).length+1 by omega,List.take_succ_cons,take_takeWhile]
theorem rfLong_walk (R:Nat) (s:ByteArray) (v1 v2 v3 v4 v5:Value) (f:Nat) (w:World) (hs:s.size<=17000) (hf:f<s.size) (h:Arr w R 155 [.string s,v1,v2,v3,v4,v5]) :
  Calls Tryz.prog 123 #[.pointer (some ⟨R,0,none⟩),.int .i64 (f:Int)] w fun e w'=>e=.returned (.int .i64 (longB (s.data.toList.drop f):Int))/\w=w':=by
 obtain ⟨x0,-,-,-,-,-⟩:=rf_cells h
 obtain ⟨m,hm⟩:∃m,longB (s.data.toList.drop f)=m:=⟨_,rfl⟩
 rw [hm]
 rw [drop_cons s f hf] at hm
 clear h
 have i0:(0:Int)<=(f:Int):=by omega
 have i1:(f:Int)<(s.size:Int):=by omega
 go_enter Tryz.func123,Tryz.ntmps123
 go_upto_block 0 with fail
 obtain ⟨c,hc⟩:∃c,s[f]'hf=c:=⟨_,rfl⟩
 rw [hc] at hm ⊢
 by_cases hs1:signsB.contains c=true
 ·have hm1:m=1:=by rw [<-hm,longB,if_pos hs1]
  subst hm1
  have hmem:c∈signsB:=by simpa using hs1
  clear hm hs1 hc
  simp only [signsB,List.mem_cons,List.not_mem_nil,or_false] at hmem
  rcases hmem with rfl | rfl | rfl | rfl | rfl | rfl | rfl | rfl
  all_goals
   go_wp2_with fail
   go_ret
   exact ⟨rfl,rfl⟩
 rw [longB,if_neg hs1] at hm
 have hne:∀k:UInt8,k∈signsB->((c.toNat:Int)==(k.toNat:Int))=false:=fun k hk=>by
  rw [beq_eq_false_iff_ne]
  intro he
  refine hs1 ?_
  rw [UInt8.toNat_inj.1 (show c.toNat=k.toNat by omega)]
  simpa using hk
 have n1:((c.toNat:Int)==61)=false:=hne 61 (by decide)
 have n2:((c.toNat:Int)==60)=false:=hne 60 (by decide)
 have n3:((c.toNat:Int)==43)=false:=hne 43 (by decide)
 have n4:((c.toNat:Int)==45)=false:=hne 45 (by decide)
 have n5:((c.toNat:Int)==42)=false:=hne 42 (by decide)
 have n6:((c.toNat:Int)==40)=false:=hne 40 (by decide)
 have n7:((c.toNat:Int)==41)=false:=hne 41 (by decide)
 have n8:((c.toNat:Int)==48)=false:=hne 48 (by decide)
 clear hs1 hne
 by_cases hd1:49<=c.toNat/\c.toNat<=57
 ·rw [if_pos hd1] at hm
  have d1:49<=(c.toNat:Int):=by omega
  have d2:(c.toNat:Int)<=57:=by omega
  have d2':¬57<(c.toNat:Int):=by omega
  have hcd:digitB c=true:=by simp only [digitB,decide_eq_true_eq];omega
  obtain ⟨k,hk⟩:∃k,((s.data.toList.drop (f+1)).takeWhile digitB).length+1=k:=⟨_,rfl⟩
  rw [hk] at hm
  obtain ⟨hfk,hlt,hend⟩:=tw_s s f k hf hk
  have hD:=ext_tw0 s f k hf hk
  rw [hc] at hD
  have HLT:=hid hlt
  have HEND:=hid hend
  have HI:=hid (fun (W:World)=>rfInt_walk (s.extract f (f+k)) W (by rw [ByteArray.size_extract];omega) (by rw [hD];simp) (by rw [hD,List.all_cons,hcd,List.all_takeWhile];rfl) (fun hbig=>spell_great (by rw [hD];exact hd1.1) (by rw [ba_len];exact hbig)))
  rw [hD] at HI
  have HM:=hid hm
  have k1:1<=k:=by omega
  clear hlt hend hd1 hk hm hD hcd hc
  go_wp2_with fail
  go_loop [6] (fun n=>∃j:Nat,1<=j/\j<=k/\n=.int .i64 (j:Int)) (fun n=>k-(intOf n).toNat)
  case atStart=>exact ⟨1,Nat.le_refl _,k1,rfl⟩
  obtain ⟨j,hj1,hjk,rfl⟩:=hrel
  have j0:(0:Int)<=(f:Int)+(j:Int):=by omega
  by_cases hlt:j<k
  ·have hjs:f+j<s.size:=by omega
   have j1:(f:Int)+(j:Int)<(s.size:Int):=by omega
   have hdj:=HLT.out j hj1 hlt hjs
   simp only [digitB,decide_eq_true_eq] at hdj
   have e1:48<=(((s[f+j]'hjs).toNat:Nat):Int):=by omega
   have e2:(((s[f+j]'hjs).toNat:Nat):Int)<=57:=by omega
   have wr1:wrap64 ((j:Int)+1)=(j:Int)+1:=IntWalk.wrap64_in _ (by omega)
   clear hdj
   go_wp2_with fail
   go_round
   case rel=>exact ⟨j+1,by omega,by omega,rfl⟩
   case measure=>simp only [intOf];omega
  obtain rfl:j=k:=by omega
  have i3:(f:Int)<=(f:Int)+(j:Int):=by omega
  have i4:(f:Int)+(j:Int)<=(s.size:Int):=by omega
  have hcase:((f:Int)+(j:Int)<(s.size:Int)/\∃h:f+j<s.size,(((s[f+j]'h).toNat:Nat):Int)<48\/(48<=(((s[f+j]'h).toNat:Nat):Int)/\¬(((s[f+j]'h).toNat:Nat):Int)<=57))\/¬(f:Int)+(j:Int)<(s.size:Int):=by
   by_cases hjs:f+j<s.size
   ·have hdj:=HEND.out hjs
    simp only [digitB,decide_eq_false_iff_not] at hdj
    exact .inl ⟨by omega,hjs,by omega⟩
   exact .inr (by omega)
  have hit:(spell 0 (c :: (s.data.toList.drop (f+1)).takeWhile digitB)<=9223372036854775807/\m=j)\/(¬spell 0 (c :: (s.data.toList.drop (f+1)).takeWhile digitB)<=9223372036854775807/\m=0):=by
   by_cases hsp:spell 0 (c :: (s.data.toList.drop (f+1)).takeWhile digitB)<=9223372036854775807
   ·exact .inl ⟨hsp,by rw [<-HM.out,if_pos hsp]⟩
   exact .inr ⟨hsp,by rw [<-HM.out,if_neg hsp]⟩
  clear HLT HEND HM
  have HII:Hid (∀W,Calls Tryz.prog 157 #[.string (s.extract f (f+j))] W fun e w'=>∃n,e=.returned (.tuple #[.int .i64 n,.bool (decide (m=j))])/\W=w'):=fun W=>by
   refine (HI.out W).mono ?_
   rintro e w' ⟨⟨n,b,rfl,rfl,-⟩,rfl⟩
   refine ⟨n,?_,rfl⟩
   rcases hit with ⟨h1,h2⟩ | ⟨h1,h2⟩
   ·rw [decide_eq_true h1,decide_eq_true h2]
   rw [decide_eq_false h1,decide_eq_false (by omega)]
  clear HI
  have hm2:m=j\/m=0:=by rcases hit with ⟨_,h2⟩ | ⟨_,h2⟩<;>omega
  clear hit
  rcases hcase with ⟨j1,hjs,e1 | ⟨e1,e2⟩⟩ | j1
  all_goals
   go_wp2_with fail
   refine (HII.out _).mono ?_
   rintro e w2 ⟨n,rfl,rfl⟩
   rcases hm2 with rfl | rfl
   ·rw [decide_eq_true rfl]
    go_wp2_with fail
    go_ret
    exact ⟨rfl,rfl⟩
   rw [decide_eq_false (by omega)]
   go_wp2_with fail
   go_ret
   exact ⟨rfl,rfl⟩
 rw [if_neg hd1] at hm
 by_cases hq:c=39
 ·rw [if_pos hq] at hm
  subst hq
  clear n1 n2 n3 n4 n5 n6 n7 n8 hd1 hc
  obtain ⟨k,hk⟩:∃k,((s.data.toList.drop (f+1)).takeWhile (· != 39)).length+1=k:=⟨_,rfl⟩
  obtain ⟨hfk,hlt,hend⟩:=tw_s s f k hf hk
  have hX:=ext_tw s f k hk
  have HLT:=hid hlt
  have HEND:=hid hend
  obtain ⟨b,hb⟩:∃b,((s.data.toList.drop (f+1)).takeWhile (· != 39)).all quotB=b:=⟨_,rfl⟩
  have HQ:=hid (fun (W:World)=>by have:=rfQuot_walk (s.extract (f+1) (f+k)) W (by rw [ByteArray.size_extract];unfold maxLen;omega);rw [hX,hb] at this;exact this)
  have hm':(f+k<s.size/\b=true/\m=k+1)\/(f+k<s.size/\b=false/\m=0)\/(¬f+k<s.size/\m=0):=by
   have hl:(s.data.toList.drop (f+1)).length=s.size-(f+1):=by rw [List.length_drop,ba_len]
   rw [hl] at hm
   by_cases h1:f+k<s.size
   ·rw [hb] at hm
    cases b with
    | true=>rw [if_pos ⟨by omega,rfl⟩] at hm;exact .inl ⟨h1,rfl,by omega⟩
    | false=>rw [if_neg (fun h=>absurd h.2 (by decide))] at hm;exact .inr (.inl ⟨h1,rfl,by omega⟩)
   rw [if_neg (fun h=>by omega)] at hm;exact .inr (.inr ⟨h1,by omega⟩)
  have k1:1<=k:=by omega
  clear hlt hend hX hb hm hk
  go_wp2_with fail
  go_loop [6] (fun n=>∃j:Nat,1<=j/\j<=k/\n=.int .i64 (j:Int)) (fun n=>k-(intOf n).toNat)
  case atStart=>exact ⟨1,Nat.le_refl _,k1,rfl⟩
  obtain ⟨j,hj1,hjk,rfl⟩:=hrel
  have j0:(0:Int)<=(f:Int)+(j:Int):=by omega
  have hbyte:∀x:UInt8,(x != 39) = !((x.toNat:Int)==39):=fun x=>by
   rw [Bool.eq_iff_iff]
   simp only [bne_iff_ne,ne_eq,Bool.not_eq_true',beq_eq_false_iff_ne]
   exact ⟨fun h1 h2=>h1 (UInt8.toNat_inj.1 (by have:(39:UInt8).toNat=39:=rfl;omega)),fun h1 h2=>h1 (by rw [h2];rfl)⟩
  by_cases hlt:j<k
  ·have hjs:f+j<s.size:=by omega
   have j1:(f:Int)+(j:Int)<(s.size:Int):=by omega
   have hdj:=HLT.out j hj1 hlt hjs
   rw [hbyte,Bool.not_eq_true'] at hdj
   have wr1:wrap64 ((j:Int)+1)=(j:Int)+1:=IntWalk.wrap64_in _ (by omega)
   clear hbyte hm'
   go_wp2_with fail
   go_round
   case rel=>exact ⟨j+1,by omega,by omega,rfl⟩
   case measure=>simp only [intOf];omega
  obtain rfl:j=k:=by omega
  have i3:(f:Int)+1<=(f:Int)+(j:Int):=by omega
  have i4:(f:Int)+(j:Int)<=(s.size:Int):=by omega
  rcases hm' with ⟨h1,rfl,rfl⟩ | ⟨h1,rfl,rfl⟩ | ⟨h1,rfl⟩
  ·have j1:(f:Int)+(j:Int)<(s.size:Int):=by omega
   have hdj:=HEND.out h1
   rw [hbyte,Bool.not_eq_false'] at hdj
   have wr1:wrap64 ((j:Int)+1)=(j:Int)+1:=IntWalk.wrap64_in _ (by omega)
   clear hbyte HLT HEND
   go_wp2_with fail
   refine (HQ.out _).mono ?_
   rintro e w2 ⟨rfl,rfl⟩
   go_wp2_with fail
   go_ret
   exact ⟨rfl,rfl⟩
  ·have j1:(f:Int)+(j:Int)<(s.size:Int):=by omega
   have hdj:=HEND.out h1
   rw [hbyte,Bool.not_eq_false'] at hdj
   clear hbyte HLT HEND
   go_wp2_with fail
   refine (HQ.out _).mono ?_
   rintro e w2 ⟨rfl,rfl⟩
   go_wp2_with fail
   go_ret
   exact ⟨rfl,rfl⟩
  have j1:¬(f:Int)+(j:Int)<(s.size:Int):=by omega
  clear hbyte HLT HEND
  go_wp2_with fail
  go_ret
  exact ⟨rfl,rfl⟩
 rw [if_neg hq] at hm
 have n9:((c.toNat:Int)==39)=false:=by
  rw [beq_eq_false_iff_ne]
  intro h
  exact hq (UInt8.toNat_inj.1 (by have:(39:UInt8).toNat=39:=rfl;omega))
 by_cases hlet:97<=c.toNat/\c.toNat<=122
 ·rw [if_pos hlet] at hm
  have d1:49<=(c.toNat:Int):=by omega
  have d2:¬(c.toNat:Int)<=57:=by omega
  have d3:97<=(c.toNat:Int):=by omega
  have d4:(c.toNat:Int)<=122:=by omega
  obtain ⟨k,hk⟩:∃k,((s.data.toList.drop (f+1)).takeWhile letterB).length+1=k:=⟨_,rfl⟩
  rw [hk] at hm
  obtain ⟨hfk,hlt,hend⟩:=tw_s s f k hf hk
  have HLT:=hid hlt
  have HEND:=hid hend
  have HLW:=hid rfLetter_walk
  have HM:=hid hm
  have k1:1<=k:=by omega
  clear hlt hend hm hk hq hlet hd1 hc
  go_wp2_with fail
  go_loop [6] (fun n=>∃j:Nat,1<=j/\j<=k/\n=.int .i64 (j:Int)) (fun n=>k-(intOf n).toNat)
  case atStart=>exact ⟨1,Nat.le_refl _,k1,rfl⟩
  obtain ⟨j,hj1,hjk,rfl⟩:=hrel
  have j0:(0:Int)<=(f:Int)+(j:Int):=by omega
  by_cases hlt:j<k
  ·have hjs:f+j<s.size:=by omega
   have j1:(f:Int)+(j:Int)<(s.size:Int):=by omega
   have HL:=hid (fun W=>by have:=HLW.out (s[f+j]'hjs) W;rw [HLT.out j hj1 hlt hjs] at this;exact this)
   have wr1:wrap64 ((j:Int)+1)=(j:Int)+1:=IntWalk.wrap64_in _ (by omega)
   clear HLT HEND HLW
   go_wp2_with fail
   refine (HL.out _).mono ?_
   rintro e w2 ⟨rfl,rfl⟩
   go_wp2_with fail
   go_round
   case rel=>exact ⟨j+1,by omega,by omega,rfl⟩
   case measure=>simp only [intOf];omega
  obtain rfl:j=k:=by omega
  have hm':((j:Int)<=32/\m=j)\/(¬(j:Int)<=32/\m=0):=by
   have:=HM.out
   by_cases h:j<=32
   ·rw [if_pos h] at this;exact .inl ⟨by omega,by omega⟩
   rw [if_neg h] at this;exact .inr ⟨by omega,by omega⟩
  clear HM
  by_cases hjs:f+j<s.size
  ·have j1:(f:Int)+(j:Int)<(s.size:Int):=by omega
   have HL:=hid (fun W=>by have:=HLW.out (s[f+j]'hjs) W;rw [HEND.out hjs] at this;exact this)
   clear HLT HEND HLW
   rcases hm' with ⟨h1,rfl⟩ | ⟨h1,rfl⟩
   all_goals
    go_wp2_with fail
    refine (HL.out _).mono ?_
    rintro e w2 ⟨rfl,rfl⟩
    go_wp2_with fail
    go_ret
    exact ⟨rfl,rfl⟩
  have j1:¬(f:Int)+(j:Int)<(s.size:Int):=by omega
  clear HLT HEND HLW
  rcases hm' with ⟨h1,rfl⟩ | ⟨h1,rfl⟩
  all_goals
   go_wp2_with fail
   go_ret
   exact ⟨rfl,rfl⟩
 rw [if_neg hlet] at hm
 subst hm
 rcases (by omega:c.toNat<49\/(57<c.toNat/\c.toNat<97)\/122<c.toNat) with h1 | h1 | h1
 ·have d1:¬49<=(c.toNat:Int):=by omega
  have d2:¬97<=(c.toNat:Int):=by omega
  clear hd1 hq hlet h1 hc
  go_wp2_with fail
  go_ret
  exact ⟨rfl,rfl⟩
 ·have d1:49<=(c.toNat:Int):=by omega
  have d3:¬(c.toNat:Int)<=57:=by omega
  have d2:¬97<=(c.toNat:Int):=by omega
  clear hd1 hq hlet h1 hc
  go_wp2_with fail
  go_ret
  exact ⟨rfl,rfl⟩
 have d1:49<=(c.toNat:Int):=by omega
 have d3:¬(c.toNat:Int)<=57:=by omega
 have d2:97<=(c.toNat:Int):=by omega
 have d4:¬(c.toNat:Int)<=122:=by omega
 clear hd1 hq hlet h1 hc
 go_wp2_with fail
 go_ret
 exact ⟨rfl,rfl⟩
def AdvR (R:Nat) (s:ByteArray) (x:Except Nat GSt) (v:Value) (w:World) (e:Ending) (w':World):Prop:=KeepR R w w'/\e=.returned v/\RfIs R w' s x
abbrev rdT:Nat:=155
theorem rfFail_ok (R:Nat) (s:ByteArray) (i p a:Nat) (nw:ByteArray) (w:World) (h:Arr w R 155 [.string s,.int .i64 (i:Int),.int .i64 (p:Int),.string nw,.bool false,.int .i64 0]) :
  Calls Tryz.prog 95 #[.pointer (some ⟨R,0,none⟩),.int .i64 (a:Int)] w (AdvR R s (.error a) (.tuple #[]) w):=by
 have H:=hid h
 obtain ⟨x0,x1,x2,x3,x4,x5⟩:=rf_cells h
 have f3:=h.frozen 3
 have f4:=h.frozen 4
 have f5:=h.frozen 5
 clear h
 go_enter Tryz.func95,Tryz.ntmps95
 go_wp2_with fail
 go_end0
 exact ⟨(((KeepR.refl R w).setCell _).setCell _).setCell _,rfl,i,p,((H.out.set 4 _).set 5 _).set 3 _⟩
theorem rfFail_bad (R:Nat) (s:ByteArray) (b:Nat) (v:Value) (w:World) (h:RfIs R w s (.error b)) :
  Calls Tryz.prog 95 #[.pointer (some ⟨R,0,none⟩),v] w (AdvR R s (.error b) (.tuple #[]) w):=by
 have H:=hid h
 obtain ⟨i,p,h⟩:=h
 obtain ⟨x0,x1,x2,x3,x4,x5⟩:=rf_cells h
 clear h
 go_enter Tryz.func95,Tryz.ntmps95
 go_wp2_with fail
 go_end0
 exact ⟨KeepR.refl R w,rfl,H.out⟩
theorem rfStep_bad (R:Nat) (s:ByteArray) (b:Nat) (w:World) (h:RfIs R w s (.error b)) :
  Calls Tryz.prog 93 #[.pointer (some ⟨R,0,none⟩)] w (AdvR R s (.error b) (.tuple #[]) w):=by
 have H:=hid h
 obtain ⟨i,p,h⟩:=h
 obtain ⟨x0,x1,x2,x3,x4,x5⟩:=rf_cells h
 clear h
 go_enter Tryz.func93,Tryz.ntmps93
 go_wp2_with fail
 go_end0
 exact ⟨KeepR.refl R w,rfl,H.out⟩
theorem atI_arr {R:Nat} {w:World} {t:TypeId} {a c d e f:Value} {i:Nat} (h:Arr w R t [a,.int .i64 (i:Int),c,d,e,f]):atI R w=i:=by
 rw [atI,(rf_cells h).2.1];simp [intOf]
theorem rfStep_ok (R:Nat) (s:ByteArray) (st:GSt) (w:World) (hs:s.size<=17000) (hi:st.i<=s.size) (h:RfIs R w s (.ok st)) :
  Calls Tryz.prog 93 #[.pointer (some ⟨R,0,none⟩)] w (AdvR R s (stepB s st.i) (.tuple #[]) w):=by
 have HR0:Hid (Arr w R 155 [.string s,.int .i64 (st.i:Int),.int .i64 (st.pos:Int),.string st.now,.bool false,.int .i64 0]):=h
 obtain ⟨X,hX⟩:∃X,stepB s st.i=X:=⟨_,rfl⟩
 have HST:=hid hX
 rw [hX]
 obtain ⟨-,-,-,-,x4,-⟩:=rf_cells HR0.out
 clear h hX
 go_enter Tryz.func93,Tryz.ntmps93
 go_upto_block 0 with fail
 clear x4
 go_cut [7] from 8 to 35 (fun _ wx=>Hid (Arr wx R 155 [.string s,.int .i64 (fromB s st.i:Int),.int .i64 (st.pos:Int),.string st.now,.bool false,.int .i64 0])/\Hid (KeepR R w wx))
 case first =>
  go_wp2_with fail
  go_loopw [7] (fun _ wr=>∃j:Nat,st.i<=j/\j<=s.size/\Hid (fromB s j=fromB s st.i)/\Hid (Arr wr R 155 [.string s,.int .i64 (j:Int),.int .i64 (st.pos:Int),.string st.now,.bool false,.int .i64 0])/\Hid (KeepR R w wr)) (fun _ wr=>s.size-atI R wr)
  case atStart=>exact ⟨st.i,Nat.le_refl _,hi,rfl,HR0,KeepR.refl _ _⟩
  obtain ⟨j,hij,hj,hf,hX,hK⟩:=hrel
  obtain ⟨x0,x1,-,-,-,-⟩:=rf_cells hX.out
  have f1:=hX.out.frozen 1
  by_cases hlt:j<s.size
  ·have i1:(j:Int)<(s.size:Int):=by omega
   have i2:(0:Int)<=(j:Int):=by omega
   by_cases h32:s[j]=32
   ·have HF:Hid (fromB s (j+1)=fromB s st.i):=by show _=_;rw [fromB_next hlt h32];exact hf.out
    have g:(((s[j]'hlt).toNat:Int)==32)=true:=by rw [h32];rfl
    have wr1:IntKind.i64.wrap ((j:Int)+1)=(j:Int)+1:=wrap_i64 (by omega) (by omega)
    clear h32 hf
    go_wp2
    go_quiet (fail)
    go_wp2
    have h2:=(hX.out.drewN nq).set 1 (.int .i64 ((j:Int)+1))
    refine ⟨⟨j+1,by omega,by omega,HF,h2,(hK.out.drewN nq).setCell _⟩,?_⟩
    rw [atI_arr (i:=j+1) h2,atI_arr hX.out]
    omega
   have hfj:=fromB_stop hlt h32
   have hff:=hf.out
   have g:(((s[j]'hlt).toNat:Int)==32)=false:=by
    rw [beq_eq_false_iff_ne]
    intro hc
    exact h32 (UInt8.toNat_inj.1 (by have:(32:UInt8).toNat=32:=rfl;omega))
   clear h32 hf
   go_wp2
   go_quiet (fail)
   go_wp2
   go_meet
   rw [<-hff,hfj]
   exact ⟨hX.out.drewN nq,hK.out.drewN nq⟩
  have hje:j=s.size:=by omega
  subst hje
  have hff:=hf.out
  rw [fromB_end] at hff
  have i1:¬(s.size:Int)<(s.size:Int):=by omega
  clear hf
  go_wp2
  go_quiet (fail)
  go_wp2
  go_meet
  rw [<-hff]
  exact ⟨hX.out.drewN nq,hK.out.drewN nq⟩
 obtain ⟨hX,hK⟩:=hcut
 have hge:st.i<=fromB s st.i:=fromB_ge s st.i
 have hle:fromB s st.i<=s.size:=fromB_le s hi
 have hst:=HST.out
 rw [stepB] at hst
 clear HST
 generalize fromB s st.i=f at *
 obtain ⟨x0,x1,x2,x3,x4,x5⟩:=rf_cells hX.out
 have f1:=hX.out.frozen 1
 have f2:=hX.out.frozen 2
 have f3:=hX.out.frozen 3
 by_cases hfe:f=s.size
 ·rw [if_pos hfe] at hst
  have g:((f:Int)==(s.size:Int))=true:=by rw [hfe];simp
  have HX:=hid hst
  have HE:=hid hfe
  clear hst hfe
  go_wp2_with fail
  go_quiet (fail)
  go_wp2_with fail
  go_end0
  rw [<-HX.out]
  have h2:=(((hX.out.set 2 (.int .i64 (f:Int))).set 3 (.string ⟨#[]⟩)).drewN nq)
  exact ⟨((hK.out.setCell _).setCell _).drewN nq,rfl,HE.out▸h2⟩
 rw [if_neg hfe] at hst
 have g:((f:Int)==(s.size:Int))=false:=by rw [beq_eq_false_iff_ne];omega
 have hfl:f<s.size:=by omega
 obtain ⟨m,hm⟩:∃m,longB (s.data.toList.drop f)=m:=⟨_,rfl⟩
 have hm1:=longB_le (s.data.toList.drop f)
 rw [List.length_drop,ba_len,hm] at hm1
 have HL:=hid (fun v1 v2 v3 v4 v5 W h=>by have:=rfLong_walk R s v1 v2 v3 v4 v5 f W hs hfl h;rw [hm] at this;exact this)
 rw [hm] at hst
 have HX:=hid hst
 clear hst hfe hm
 have i1:(0:Int)<=(f:Int):=by omega
 have i2:(f:Int)<=(s.size:Int):=by omega
 have h5:=(hX.out.set 2 (.int .i64 (f:Int))).set 3 (.string ⟨#[]⟩)
 go_wp2_with fail
 go_quiet (fail)
 have H6:=hid (h5.drewN nq)
 have HK6:=hid (((hK.out.setCell (j:=2) (.int .i64 (f:Int))).setCell (j:=3) (.string ⟨#[]⟩)).drewN nq)
 clear h5
 obtain ⟨w6,hw6⟩:∃w6,((wc.setCell ⟨R,2,none⟩ (.int .i64 (f:Int))).setCell ⟨R,3,none⟩ (.string ⟨#[]⟩)).drewN nq=w6:=⟨_,rfl⟩
 have HW6:=hid hw6
 rw [hw6] at H6 HK6
 clear hw6
 rw [HW6.out]
 clear HW6 x0 x1 x2 x3 x4 x5 f1 f2 f3
 obtain ⟨x0,x1,x2,x3,x4,x5⟩:=rf_cells H6.out
 have f1:=H6.out.frozen 1
 have f3:=H6.out.frozen 3
 by_cases hm0:m=0
 ·subst hm0
  rw [if_pos rfl] at HX
  have HF:=hid (rfFail_ok R s f f f ⟨#[]⟩ w6 H6.out)
  go_wp2_with fail
  refine (HL.out _ _ _ _ _ _ H6.out).mono ?_
  rintro e w7 ⟨rfl,rfl⟩
  go_wp2_with fail
  refine HF.out.mono ?_
  rintro e w8 ⟨hk,rfl,h8⟩
  have HK8:=hid (HK6.out.trans hk)
  have H8:=hid h8
  clear hk h8
  go_wp2_with fail
  go_end0
  rw [<-HX.out]
  exact ⟨HK8.out,rfl,H8.out⟩
 rw [if_neg hm0] at HX
 have g0:((m:Int)==0)=false:=by rw [beq_eq_false_iff_ne];omega
 have i3:(f:Int)<=(f:Int)+(m:Int):=by omega
 have i4:(f:Int)+(m:Int)<=(s.size:Int):=by omega
 clear hm0
 go_wp2_with fail
 refine (HL.out _ _ _ _ _ _ H6.out).mono ?_
 rintro e w7 ⟨rfl,rfl⟩
 go_wp2_with fail
 go_region
 go_wp2_with fail
 go_end0
 rw [<-HX.out]
 have h9:=((H6.out.set 3 (.string (s.extract f (f+m)))).set 1 (.int .i64 ((f:Int)+(m:Int)))).drew
 exact ⟨((HK6.out.setCell _).setCell _).drew,rfl,h9⟩
def stepX (s:ByteArray):Except Nat GSt->Except Nat GSt
 | .ok st=>stepB s st.i
 | .error a=>.error a
theorem rfStep (R:Nat) (s:ByteArray) (x:Except Nat GSt) (w:World) (hs:s.size<=17000) (hi:∀st,x=.ok st->st.i<=s.size) (h:RfIs R w s x) :
  Calls Tryz.prog 93 #[.pointer (some ⟨R,0,none⟩)] w (AdvR R s (stepX s x) (.tuple #[]) w):=by
 cases x with
 | ok st=>exact rfStep_ok R s st w hs (hi st rfl) h
 | error a=>exact rfStep_bad R s a w h
theorem rfIs_yes (R:Nat) (s:ByteArray) (st:GSt) (w:World) (hs:s.size<=17000) (hi:st.i<=s.size) (h:RfIs R w s (.ok st)) :
  Calls Tryz.prog 125 #[.pointer (some ⟨R,0,none⟩),.string st.now] w (AdvR R s (stepB s st.i) (.bool true) w):=by
 have HS:=hid (rfStep_ok R s st w hs hi h)
 have h':Arr w R 155 [.string s,.int .i64 (st.i:Int),.int .i64 (st.pos:Int),.string st.now,.bool false,.int .i64 0]:=h
 obtain ⟨x0,x1,x2,x3,x4,x5⟩:=rf_cells h'
 clear h h'
 go_enter Tryz.func125,Tryz.ntmps125
 go_wp2_with fail
 refine HS.out.mono ?_
 rintro e w2 ⟨hk,rfl,h2⟩
 have HK:=hid hk
 have H2:=hid h2
 clear hk h2 HS
 go_wp2_with fail
 go_ret
 exact ⟨HK.out,rfl,H2.out⟩
theorem rfIs_no (R:Nat) (s:ByteArray) (st:GSt) (y:ByteArray) (w:World) (hy:¬st.now=y) (h:RfIs R w s (.ok st)) :
  Calls Tryz.prog 125 #[.pointer (some ⟨R,0,none⟩),.string y] w fun e w'=>e=.returned (.bool false)/\w=w':=by
 have h':Arr w R 155 [.string s,.int .i64 (st.i:Int),.int .i64 (st.pos:Int),.string st.now,.bool false,.int .i64 0]:=h
 obtain ⟨x0,x1,x2,x3,x4,x5⟩:=rf_cells h'
 have g:(st.now.toList==y.toList)=false:=by rw [ba_eq];exact decide_eq_false hy
 clear h h'
 go_enter Tryz.func125,Tryz.ntmps125
 go_wp2_with fail
 go_ret
 exact ⟨rfl,rfl⟩
theorem rfIs_bad (R:Nat) (s:ByteArray) (a:Nat) (y:ByteArray) (w:World) (h:RfIs R w s (.error a)) :
  Calls Tryz.prog 125 #[.pointer (some ⟨R,0,none⟩),.string y] w fun e w'=>e=.returned (.bool false)/\w=w':=by
 obtain ⟨i,p,h⟩:=h
 obtain ⟨x0,x1,x2,x3,x4,x5⟩:=rf_cells h
 clear h
 go_enter Tryz.func125,Tryz.ntmps125
 go_wp2_with fail
 go_ret
 exact ⟨rfl,rfl⟩
def needX (s:ByteArray) (y:ByteArray):Except Nat GSt->Except Nat GSt
 | .ok st=>needB s y st
 | .error a=>.error a
theorem rfNeed (R:Nat) (s:ByteArray) (x:Except Nat GSt) (y:ByteArray) (w:World) (hs:s.size<=17000) (hi:∀st,x=.ok st->st.i<=s.size) (h:RfIs R w s x) :
  Calls Tryz.prog 202 #[.pointer (some ⟨R,0,none⟩),.string y] w (AdvR R s (needX s y x) (.tuple #[]) w):=by
 cases x with
 | ok st =>
  by_cases hy:st.now=y
  ·subst hy
   have HS:=hid (rfIs_yes R s st w hs (hi st rfl) h)
   show Calls _ _ _ _ (AdvR R s (needB s st.now st) _ w)
   rw [needB,if_pos rfl]
   clear h
   go_enter Tryz.func202,Tryz.ntmps202
   go_wp2_with fail
   refine HS.out.mono ?_
   rintro e w2 ⟨hk,rfl,h2⟩
   have HK:=hid hk
   have H2:=hid h2
   clear hk h2 HS
   go_wp2_with fail
   go_end0
   exact ⟨HK.out,rfl,H2.out⟩
  have HS:=hid (rfIs_no R s st y w hy h)
  show Calls _ _ _ _ (AdvR R s (needB s y st) _ w)
  rw [needB,if_neg hy]
  have HF:=hid (rfFail_ok R s st.i st.pos st.pos st.now w h)
  have h':Arr w R 155 [.string s,.int .i64 (st.i:Int),.int .i64 (st.pos:Int),.string st.now,.bool false,.int .i64 0]:=h
  obtain ⟨x0,x1,x2,x3,x4,x5⟩:=rf_cells h'
  clear h h'
  go_enter Tryz.func202,Tryz.ntmps202
  go_wp2_with fail
  refine HS.out.mono ?_
  rintro e w2 ⟨rfl,rfl⟩
  clear HS
  go_wp2_with fail
  refine HF.out.mono ?_
  rintro e w2 ⟨hk,rfl,h2⟩
  have HK:=hid hk
  have H2:=hid h2
  clear hk h2 HF
  go_wp2_with fail
  go_end0
  exact ⟨HK.out,rfl,H2.out⟩
 | error a =>
  have HS:=hid (rfIs_bad R s a y w h)
  have HF:=hid (fun v=>rfFail_bad R s a v w h)
  obtain ⟨i,p,h⟩:=h
  obtain ⟨x0,x1,x2,x3,x4,x5⟩:=rf_cells h
  clear h
  go_enter Tryz.func202,Tryz.ntmps202
  go_wp2_with fail
  refine HS.out.mono ?_
  rintro e w2 ⟨rfl,rfl⟩
  clear HS
  go_wp2_with fail
  refine (HF.out _).mono ?_
  rintro e w2 ⟨hk,rfl,h2⟩
  have HK:=hid hk
  have H2:=hid h2
  clear hk h2 HF
  go_wp2_with fail
  go_end0
  exact ⟨HK.out,rfl,H2.out⟩
theorem rfName_ok (R:Nat) (s:ByteArray) (st:GSt) (w:World) (hs:s.size<=17000) (hg:GS s st) (h:RfIs R w s (.ok st)) :
  Calls Tryz.prog 203 #[.pointer (some ⟨R,0,none⟩)] w fun e w'=>∃y,AdvR R s (if namedG st.now=true then stepB s st.i else .error st.pos) (.string y) w e w'/\(namedG st.now=true->y=st.now):=by
 have HN:=hid (fun W=>rfNamed_walk st.now W (by unfold maxLen;have:=hg.short;omega))
 have HF:=hid (rfFail_ok R s st.i st.pos st.pos st.now w h)
 have HS:=hid (rfStep_ok R s st w hs hg.le h)
 have h':Arr w R 155 [.string s,.int .i64 (st.i:Int),.int .i64 (st.pos:Int),.string st.now,.bool false,.int .i64 0]:=h
 obtain ⟨x0,x1,x2,x3,x4,x5⟩:=rf_cells h'
 clear h h'
 generalize namedG st.now=nb at *
 cases nb with
 | false =>
  rw [if_neg (by decide)]
  go_enter Tryz.func203,Tryz.ntmps203
  go_wp2_with fail
  refine (HN.out _).mono ?_
  rintro e w2 ⟨rfl,rfl⟩
  go_wp2_with fail
  refine HF.out.mono ?_
  rintro e w2 ⟨hk,rfl,h2⟩
  have HK:=hid hk
  have H2:=hid h2
  clear hk h2 HF HS
  go_wp2_with fail
  go_ret
  exact ⟨_,⟨HK.out,rfl,H2.out⟩,fun h=>absurd h (by decide)⟩
 | true =>
  rw [if_pos rfl]
  go_enter Tryz.func203,Tryz.ntmps203
  go_wp2_with fail
  refine (HN.out _).mono ?_
  rintro e w2 ⟨rfl,rfl⟩
  go_wp2_with fail
  refine HS.out.mono ?_
  rintro e w2 ⟨hk,rfl,h2⟩
  have HK:=hid hk
  have H2:=hid h2
  clear hk h2 HF HS
  go_wp2_with fail
  go_ret
  exact ⟨_,⟨HK.out,rfl,H2.out⟩,fun _=>rfl⟩
theorem rfName_bad (R:Nat) (s:ByteArray) (a:Nat) (w:World) (h:RfIs R w s (.error a)) :
  Calls Tryz.prog 203 #[.pointer (some ⟨R,0,none⟩)] w fun e w'=>∃y,AdvR R s (.error a) (.string y) w e w':=by
 have HF:=hid (fun v=>rfFail_bad R s a v w h)
 obtain ⟨i,p,h⟩:=h
 obtain ⟨x0,x1,x2,x3,x4,x5⟩:=rf_cells h
 clear h
 go_enter Tryz.func203,Tryz.ntmps203
 go_wp2_with fail
 refine (HF.out _).mono ?_
 rintro e w2 ⟨hk,rfl,h2⟩
 have HK:=hid hk
 have H2:=hid h2
 clear hk h2 HF
 go_wp2_with fail
 go_ret
 exact ⟨_,HK.out,rfl,H2.out⟩
end Go.Proofs.YtfbbkmdhnkmonaaGreatDoor
