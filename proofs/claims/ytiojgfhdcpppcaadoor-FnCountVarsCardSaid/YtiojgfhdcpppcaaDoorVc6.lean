/-
  Contracts and lemmas that the card needs, part 6.
-/
import Derived.Test.YtiojgfhdcpppcaaDoorVc5
namespace Go.Proofs.YtiojgfhdcpppcaaDoor
open Go Go.Aw
set_option maxRecDepth 100000
set_option maxHeartbeats 4000000
variable (G:aG)
abbrev MS:=Int × Int
def lL(st:MS)(x:Sm × Nat):MS:=(IntKind.i64.wrap (st.1+1),if st.2<(x.2:Int) then(x.2:Int) else st.2)
def lG(l:List Fd)(st:MS):MS:=l.foldl (fun st f=>(bv 1 f.body).foldl lL st) st
theorem qJ:∀(l:List (Sm × Nat)) (st:MS),0≤st.1→st.1+l.length≤1099511627776→(l.foldl lL st).1=st.1+l.length
 |[],st,_,_=>by simp
 |x::r,st,h0,h=>by
  have hw:IntKind.i64.wrap (st.1+1)=st.1+1:=ag (by omega) (by simp at h;omega)
  rw[List.foldl_cons,qJ r _ (by simp only[lL,hw];omega) (by simp only[lL,hw];simp at h;omega)]
  simp only[lL,hw,List.length_cons]
  omega
theorem qK:∀(l:List Fd) (st:MS),0≤st.1→st.1+jj l≤1099511627776→(lG l st).1=st.1+jj l
 |[],st,_,_=>by simp[lG,jj]
 |f::r,st,h0,h=>by
  have ha:jj (f::r)=dh f.body+jj r:=by simp[jj]
  have hs:=qJ (bv 1 f.body) st h0 (by rw[ik];omega)
  rw[ik] at hs
  have:=qK r ((bv 1 f.body).foldl lL st) (by omega) (by omega)
  simp only[lG,List.foldl_cons] at this⊢
  omega
theorem wo{l:List Fd}{st:MS}{i:Nat}(h:i<l.length):lG (l.take (i+1)) st=(bv 1 l[i].body).foldl lL (lG (l.take i) st):=by
 rw[lG,au h,List.foldl_append];rfl
def jS(p:PV):Vis MS where
 I:=fun st=>[.row 1 [[.p p]],.row 1 [[.p (.int .i64 st.1)]],.row 1 [[.p (.int .i64 st.2)]]]
 n:=3
 F:=dD
 caps:=[.ptr 1 1 0 0,.ptr 2 1 0 0]
 len:=fun _=>rfl
 ok:=fun st=>by simp[okO,below]
 capsOk:=by simp[below]
theorem ua(p:PV)(st:MS)(s:Sm)(d:Nat):AC Tryd.prog G dD [.agg (s.cs.map .p),.p (.int .i64 d),.ptr 1 1 0 0,.ptr 2 1 0 0] ((jS p).I st) fun x h=>x= .ret (.tup [])∧h=(jS p).I (lL st (s,d)):=by
 refine(jS p).trim G (AC.go om ?_) (by simp[below])
 have hse:=s.cs_eq
 simp-implicitDefEqProofs[jq,hse,jS,lL]
theorem xY(l:List Fd)(hl:aN l≤1073741824):VF Tryd.prog G gN [.agg [.p (fdL l)]] (.tup [.p (.int .i64 (jj l)),.p (.int .i64 (lG l (0,0)).2)]):=by
 refine AC.go qG ?_
 have hll:=ck l
 have hfl:∀l,fdL l= .lst 3 (l.map Fd.cs):=fun _=>rfl
 have hn:(lG l (0,0)).1=jj l:=by rw[qK l (0,0) (by simp) (by simp only;have:=tl l;omega)];simp
 simp-implicitDefEqProofs[ki,hfl]
 refine aR (fun i:Nat=>am 20 [(2,.ptr 1 1 0 0),(3,.ptr 2 1 0 0),(7,.p (fdL l)),(8,.p (.int .i64 l.length)),(9,.p (.int .i64 i))])
  (fun i=>(jS (fdL l)).I (lG (l.take i) (0,0))) (fun i=>i≤l.length) (fun i=>l.length-i) 0 (by simp) ?_ ?_
 ·exact ab (h:=(jS (fdL l)).I (0,0)) (by simp) ((jS (fdL l)).ok _) (by simp[below,hfl,jS])
 intro i hil
 simp-implicitDefEqProofs[hfl]
 refine bc (fun hc=>?_) (fun hc=>?_)
 ·simp at hc
  have hg:=List.getElem?_eq_getElem hc
  have hks:=dg (List.getElem_mem hc)
  have hcs:l[i].cs=[.str l[i].name,ay l[i].params,smL l[i].body]:=rfl
  have hfz:l[i].sz=1+l[i].name.length+(l[i].params.length+(l[i].params.map List.length).sum)+aC l[i].body:=rfl
  have hI:=(xd G (jS (fdL l)) lL (fun _=>True) 1073741824 (by omega) (fun st s d _ _=>⟨trivial,ua G _ st s d⟩) (aC l[i].body+1) l[i].body (by omega) (by omega) 1 (by omega) (lG (l.take i) (0,0)) trivial).2
  have hlen:=(jS (fdL l)).len
  have h3:(jS (.lst 3 (l.map Fd.cs))).n=3:=rfl
  have hlen':∀st,((jS (.lst 3 (l.map Fd.cs))).I st).length=3:=fun _=>rfl
  simp-implicitDefEqProofs[hg,hcs,hlen']
  refine((jS (fdL l)).pre G hI [_] ⟨by simp,by simp,by simp[below,jS],trivial⟩).mono ?_
  rintro r h ⟨rfl,rfl⟩
  simp-implicitDefEqProofs[aa]
  refine⟨i+1,hc,by omega,?_⟩
  rw[wo hc]
  refine(jS (fdL l)).same0 (s:=[_]) _ (by simp[jS]) ?_
  simp[below,hfl,jS,w1 (i:=i) (by omega)]
 ·simp at hc
  have hie:i=l.length:=by omega
  subst hie
  rw[List.take_length]
  simp-implicitDefEqProofs[jS,hn]
theorem ou(hK:G iW=some gm)(s:List UInt8)(hb:s.length≤140737488355328):VF Tryd.prog G bj [.p (.str s)] (.p (.bool (!aD s))):=by
 refine AC.go jR ?_
 simp-implicitDefEqProofs[fv]
 refine(kG G hK s hb).use ?_
 simp-implicitDefEqProofs[]
def wg(L:List (List UInt8)):Int:=match L.findIdx? (fun w=> !aD w) with|some i=>i|none=> -1
theorem AQ(L:List (List UInt8)):decide (0≤wg L)= !(L.all aD):=by
 unfold wg
 cases h:L.findIdx? (fun x=> !aD x) with
 |none=>
  rw[List.findIdx?_eq_none_iff] at h
  have:L.all aD=true:=List.all_eq_true.2 fun x hx=>by have:=h x hx;simpa using this
  simp[this]
 |some i=>
  rw[List.findIdx?_eq_some_iff_getElem] at h
  obtain⟨h1,h2,_⟩:=h
  have:L.all aD=false:=List.all_eq_false.2 ⟨_,List.getElem_mem h1,by simpa using h2⟩
  rw[this];simp
theorem AS{L:List (List UInt8)}{n:Nat}(h:(L.map List.length).sum≤n):∀x∈L,x.length≤n:=by
 induction L with
 |nil=>intro x hx;cases hx
 |cons y r ih=>
  intro x hx
  simp only[List.map_cons,List.sum_cons] at h
  rcases List.mem_cons.1 hx with rfl|hx
  ·omega
  ·exact ih (by omega) x hx
variable (hK:G iW=some gm)
include hK
theorem wR(L:List (List UInt8))(hb:L.length≤1073741824)(hw:∀x∈L,x.length≤140737488355328):VF Tryd.prog G cu [.p (ay L),.fn (.func bj) []] (.p (.int .i64 (wg L))):=by
 refine AC.go iv ?_
 have hsl:ay L= .lst 1 (L.map fun w=>[.str w]):=rfl
 simp-implicitDefEqProofs[dK,hsl]
 refine aR (fun i:Nat=>am 19 [(0,.p (ay L)),(1,.fn (.func bj) []),(6,.p (ay L)),(7,.p (.int .i64 L.length)),(8,.p (.int .i64 i))]) (fun _=>[]) (fun i=>i≤L.length∧∀w∈L.take i,aD w=true) (fun i=>L.length-i) 0 (by simp) ?_ ?_
 ·exact ab (by simp) (by simp[okO]) (by simp[below,ah,ay])
 ·intro i ⟨hi,hn⟩
  simp-implicitDefEqProofs[hsl]
  refine bc (fun h1=>?_) (fun h1=>?_)
  ·simp at h1
   have hg:=List.getElem?_eq_getElem h1
   simp-implicitDefEqProofs[hg]
   refine(ou G hK _ (hw _ (List.getElem_mem h1))).use ?_
   by_cases he:aD L[i]=true
   ·simp-implicitDefEqProofs[he]
    refine⟨i+1,⟨h1,fun p hp=>?_⟩,by omega,ab (by simp) (by simp[okO]) ?_⟩
    ·rw[au h1] at hp
     rcases List.mem_append.1 hp with hp|hp
     ·exact hn p hp
     ·rw[List.mem_singleton.1 hp];exact he
    ·simp[below,ah,ay,w1 (i:=i) (by omega)]
   ·have hf:wg L=i:=by
     have:L.findIdx? (fun w=> !aD w)=some i:=by
      rw[List.findIdx?_eq_some_iff_getElem]
      exact⟨h1,by simpa using he,fun j hj=>by have:=hn L[j] (List.mem_take_iff_getElem.2 ⟨j,by omega,rfl⟩);simpa using this⟩
     rw[wg,this]
    simp-implicitDefEqProofs[he,hf]
  ·simp at h1
   rw[List.take_of_length_le h1] at hn
   have hf:wg L= -1:=by
    have:L.findIdx? (fun w=> !aD w)=none:=by
     rw[List.findIdx?_eq_none_iff];intro x hx;simpa using hn x hx
    rw[wg,this]
   simp-implicitDefEqProofs[hf]
theorem rM(L:List (List UInt8))(hb:L.length≤1073741824)(hw:∀x∈L,x.length≤140737488355328):VF Tryd.prog G bL [.p (ay L),.fn (.func bj) []] (.p (.bool (!L.all aD))):=by
 rw[←AQ]
 refine AC.go gk ?_
 simp-implicitDefEqProofs[db]
 refine(wR G hK L hb hw).use ?_
 simp-implicitDefEqProofs[]
variable (hS:G gR=some [.tbl opK opV])
include hS
theorem qk(l:List Fd)(hl:aN l≤1073741824):VF Tryd.prog G cL [.agg [.p (fdL l)]] (.p (.bool (br l))):=by
 refine AC.go lv ?_
 have hll:=ck l
 have hfl:∀l,fdL l= .lst 3 (l.map Fd.cs):=fun _=>rfl
 have hm:=xY G l hl
 rw[hfl] at hm
 simp-implicitDefEqProofs[gx,hfl]
 refine(jl G _ _ _).use ?_
 by_cases h1:inR l.length 1 4=true
 case neg=>simp-implicitDefEqProofs[h1,br]
 simp-implicitDefEqProofs[h1]
 refine aR (fun i:Nat=>am 48 [(1,.ptr 0 1 0 0),(13,.p (fdL l)),(14,.p (.int .i64 l.length)),(15,.p (.int .i64 i))]) (fun _=>[.row 1 [[.p (.lst 3 (l.map Fd.cs))]]]) (fun i=>i≤l.length∧(l.take i).all ir=true) (fun i=>l.length-i) 0 (by simp) (ab (by simp) (by simp[okO]) (by simp[below,hfl])) ?_
 intro i ⟨hi,ha⟩
 simp-implicitDefEqProofs[hfl]
 refine bc (fun h=>?_) (fun h=>?_)
 ·simp at h
  have hg:=List.getElem?_eq_getElem h
  have hks:=dg (List.getElem_mem h)
  have hbadF:ir l[i]=false→br l=false:=fun hk'=>by simp only[br,jy h hk',Bool.and_false,Bool.false_and]
  have hcs:l[i].cs=[.str l[i].name,ay l[i].params,smL l[i].body]:=rfl
  have hfz:l[i].sz=1+l[i].name.length+(l[i].params.length+(l[i].params.map List.length).sum)+aC l[i].body:=rfl
  have hokF:ir l[i]=(l[i].params.all aD&&aD l[i].name&&decide (l[i].params.length≤3)&&l[i].body.all (aI 4)):=rfl
  have hblk:=oU G 4 1 (fun s hs=>by simpa using zA G hK hS 4 (by omega) s hs) l[i].body (by omega)
  have hcon:=rM G hK l[i].params (by omega) (AS (by omega))
  have hst:ay l[i].params= .lst 1 (l[i].params.map fun w=>[.str w]):=rfl
  generalize l[i]=f at*
  rw[hst] at hcon
  simp-implicitDefEqProofs[hg,hcs,hst]
  refine(kG G hK _ (by omega)).use ?_
  by_cases k1:aD f.name=true
  case neg=>
   rw[hbadF (by rw[hokF];simp[k1])]
   simp-implicitDefEqProofs[k1]
  by_cases k2:f.params.length≤3
  case neg=>
   have k2':(3:Int)<f.params.length:=by omega
   rw[hbadF (by rw[hokF];simp[k2])]
   simp-implicitDefEqProofs[k1,k2']
  have k2':¬(3:Int)<f.params.length:=by omega
  simp-implicitDefEqProofs[k1,k2']
  refine hcon.use ?_
  by_cases k3:f.params.all aD=true
  case neg=>
   have k3':f.params.all aD=false:=by simpa using k3
   rw[hbadF (by rw[hokF,k3'];simp)]
   simp-implicitDefEqProofs[k3']
  simp only[k3]
  simp-implicitDefEqProofs[]
  refine hblk.use ?_
  by_cases k4:f.body.all (aI 4)=true
  case neg=>
   have k4':f.body.all (aI 4)=false:=by simpa using k4
   rw[hbadF (by rw[hokF,k4'];simp)]
   simp only[k4']
   simp-implicitDefEqProofs[]
  simp only[k4]
  simp-implicitDefEqProofs[]
  have hk:ir f=true:=by rw[hokF,k1,k3,k4];simp[k2]
  refine⟨i+1,⟨h,by rw[←List.all_eq_true,jV hg,ha,hk];rfl⟩,by omega,eM (m:=1) (by omega) (cR rfl rfl (by simp[okO,below])) (by simp[below,hfl,w1 (i:=i) (by omega)])⟩
 ·simp at h
  have h2:l.all ir=true:=eK h ha
  simp-implicitDefEqProofs[]
  refine hm.use ?_
  have hff:br l=decide (jj l≤40):=by simp only[br,h1,h2,Bool.true_and]
  simp-implicitDefEqProofs[hff]
  omega
end Go.Proofs.YtiojgfhdcpppcaaDoor
namespace Go.Proofs.YtiojgfhdcpppcaaDoor
open Go Go.Aw
set_option maxRecDepth 100000
set_option maxHeartbeats 4000000
variable (G:aG)
theorem Bj(l:List Fd)(s:List UInt8)(hl:l.length≤1073741824):VF Tryd.prog G ga [.agg [.p (fdL l)],.p (.str s)] (.p (.int .i64 (ixI (dw l s)))):=by
 have hfl:∀l,fdL l= .lst 3 (l.map Fd.cs):=fun _=>rfl
 have one:∀f:Fd,AC Tryd.prog G dT [.agg (f.cs.map .p),.ptr 1 1 0 0] [.row 1 [[.p (fdL l)]],.row 1 [[.p (.str s)]]] fun x h=>x= .ret (.p (.bool (decide (f.name=s))))∧h=[.row 1 [[.p (fdL l)]],.row 1 [[.p (.str s)]]]:=by
  intro f
  have hcs:f.cs=[.str f.name,ay f.params,smL f.body]:=rfl
  refine AC.trim (AC.go rP ?_) (by simp[below])
  simp-implicitDefEqProofs[lM,hcs]
 have idx:AC Tryd.prog G cd [.p (fdL l),.fn (.func dT) [.ptr 1 1 0 0]] [.row 1 [[.p (fdL l)]],.row 1 [[.p (.str s)]]] fun x h=>x= .ret (.p (.int .i64 (ixI (dw l s))))∧h=[.row 1 [[.p (fdL l)]],.row 1 [[.p (.str s)]]]:=by
  refine AC.go gS ?_
  simp-implicitDefEqProofs[dB,hfl]
  refine aR (fun i:Nat=>am 19 [(0,.p (fdL l)),(1,.fn (.func dT) [.ptr 1 1 0 0]),(7,.p (.int .i64 l.length)),(8,.p (.int .i64 i))]) (fun _=>[.row 1 [[.p (fdL l)]],.row 1 [[.p (.str s)]]]) (fun i=>i≤l.length∧∀f∈l.take i,f.name≠s) (fun i=>l.length-i) 0 (by simp) ?_ ?_
  ·exact ab (by simp) (by simp[okO,below]) (by simp[below,ah,hfl])
  ·intro i ⟨hi,hn⟩
   simp-implicitDefEqProofs[hfl]
   refine bc (fun h1=>?_) (fun h1=>?_)
   ·simp at h1
    have hg:=List.getElem?_eq_getElem h1
    simp-implicitDefEqProofs[hg]
    refine(one l[i]).mono ?_
    rintro r h ⟨rfl,rfl⟩
    by_cases he:l[i].name=s
    ·have hf:dw l s=some i:=by
      rw[dw,List.findIdx?_eq_some_iff_getElem]
      exact⟨h1,by simpa using he,fun j hj=>by have:=hn l[j] (List.mem_take_iff_getElem.2 ⟨j,by omega,rfl⟩);simpa using this⟩
     simp-implicitDefEqProofs[aa,he,hf,ixI]
     exact hfl l
    ·simp-implicitDefEqProofs[aa,he]
     refine⟨i+1,⟨h1,fun p hp=>?_⟩,by omega,ab (h:=[.row 1 [[.p (fdL l)]],.row 1 [[.p (.str s)]]]) (by simp) (by simp[okO,below]) (by simp[below,ah,hfl,w1 (i:=i) (by omega)])⟩
     rw[au h1] at hp
     rcases List.mem_append.1 hp with hp|hp
     ·exact hn p hp
     ·rw[List.mem_singleton.1 hp];exact he
   ·simp at h1
    rw[List.take_of_length_le h1] at hn
    have hf:dw l s=none:=by
     rw[dw,List.findIdx?_eq_none_iff];intro x hx;simpa using hn x hx
    simp-implicitDefEqProofs[hf,ixI]
 refine AC.go tW ?_
 simp-implicitDefEqProofs[pi]
 refine idx.mono ?_
 rintro r h ⟨rfl,rfl⟩
 simp-implicitDefEqProofs[aa]
structure GS where (gap:List AO) (m:Scp)
def mpE(m:Scp):List (PV × AV):=m.map fun x=>(.str x.1,.p (.int .i64 x.2))
def scL:List GS→Nat
 |[]=>0
 |g::up=>scL up+g.gap.length+2
def upV:List GS→AV
 |[]=> .nilp
 |g::up=> .ptr (2+scL up+g.gap.length+1) 2 0 0
def scH:List GS→List AO
 |[]=>[]
 |g::up=>scH up++(g.gap++[.mp (mpE g.m),.row 2 [[.mp (2+scL up+g.gap.length),upV up]]])
theorem iE:∀ch:List GS,(scH ch).length=scL ch
 |[]=>rfl
 |g::up=>by simp only[scH,scL,List.length_append,iE up,List.length_cons,List.length_nil];omega
def cO(fns:List Fd)(k:Nat)(c:Int):AO:= .row 3 [[.p (fdL fns),.p (.int .i64 k),.p (.int .i64 c)]]
def CH(b0:AO)(fns:List Fd)(k:Nat)(c:Int)(ch:List GS):List AO:=b0::cO fns k c::scH ch
theorem fJ(b0:AO)(fns:List Fd)(k:Nat)(c:Int)(ch:List GS):(CH b0 fns k c ch).length=2+scL ch:=by
 simp only[CH,List.length_cons,iE];omega
def ql:List GS→Prop
 |[]=>True
 |g::up=>(∀o∈g.gap,okO (2+scL up+g.gap.length) o)∧ql up
theorem gL:∀(ch:List GS) {n:Nat},2+scL ch≤n→below n (upV ch)
 |[],_,_=>by simp[upV,below]
 |g::up,n,h=>by simp only[scL] at h;simp only[upV,below];omega
theorem vZ:∀(ch:List GS) {n:Nat},ql ch→2+scL ch≤n→∀o∈scH ch,okO n o
 |[],_,_,_,o,ho=>by cases ho
 |g::up,n,⟨h1,h2⟩,hn,o,ho=>by
  simp only[scL] at hn
  rw[scH] at ho
  rcases List.mem_append.1 ho with h|h
  ·exact vZ up h2 (by omega) o h
  ·rcases List.mem_append.1 h with h|h
   ·exact nq (by omega) (h1 o h)
   ·simp only[List.mem_cons,List.not_mem_nil,or_false] at h
    rcases h with rfl|rfl
    ·intro e he
     obtain⟨x,_,rfl⟩:=List.mem_map.1 he
     simp[below]
    ·intro e he
     rw[List.mem_singleton.1 he]
     exact⟨by simp only[below];omega,gL up (by omega),trivial⟩
theorem vv{b0:AO}{fns:List Fd}{k:Nat}{c:Int}{ch:List GS}(hb:okO 0 b0)(hs:ql ch){n:Nat}(hn:2+scL ch≤n):∀o∈CH b0 fns k c ch,okO n o:=
 af (bU hb) (af (by intro e he;rw[List.mem_singleton.1 he];simp[below]) (vZ ch hs hn))
theorem mL(s:List UInt8):∀m:Scp,eL (.str s) (mpE m)=some ((fZ m s).map fun n=>AV.p (.int .i64 n))
 |[]=>rfl
 |x::r=>by
  have ih:=mL s r
  by_cases h:x.1=s
  ·simp[mpE,eL,keq,h,fZ]
  ·have h':¬s=x.1:=fun e=>h e.symm
   simp only[mpE,List.map_cons,eL,keq,h',decide_false]
   simp only[mpE] at ih
   rw[ih];simp[fZ,h]
theorem qW(s:List UInt8)(n:Nat):∀m:Scp,gV (.str s) (.p (.int .i64 n)) (mpE m)=some (mpE (im m s n))
 |[]=>rfl
 |x::r=>by
  have ih:=qW s n r
  by_cases h:x.1=s
  ·simp[mpE,gV,keq,h,im]
  ·have h':¬s=x.1:=fun e=>h e.symm
   simp only[mpE,List.map_cons,gV,keq,h',decide_false]
   simp only[mpE] at ih
   rw[ih];simp[im,h]
abbrev sco(ch:List GS):List Scp:=ch.map GS.m
theorem zV:∀(pre:List GS) (g:GS) (up:List GS),(scH (pre++g::up))[scL up+g.gap.length]?=some (.mp (mpE g.m))∧(scH (pre++g::up))[scL up+g.gap.length+1]?=some (.row 2 [[.mp (2+scL up+g.gap.length),upV up]])
 |[],g,up=>by
  have hl:(scH up++g.gap).length=scL up+g.gap.length:=by rw[List.length_append,iE]
  have e:scH (g::up)=(scH up++g.gap)++[.mp (mpE g.m),.row 2 [[.mp (2+scL up+g.gap.length),upV up]]]:=by rw[scH,List.append_assoc]
  rw[List.nil_append,e]
  exact⟨by rw[←hl,List.getElem?_append_right (Nat.le_refl _)];simp,by rw[←hl,List.getElem?_append_right (by omega)];simp⟩
 |p::pre,g,up=>by
  obtain⟨h1,h2⟩:=zV pre g up
  have hm1:=(List.getElem?_eq_some_iff.1 h1).1
  have hm2:=(List.getElem?_eq_some_iff.1 h2).1
  rw[List.cons_append,scH]
  exact⟨by rw[List.getElem?_append_left hm1];exact h1,by rw[List.getElem?_append_left hm2];exact h2⟩
theorem ws(ch:List GS):(upV ch).isCell=true:=by cases ch<;>rfl
theorem yw(ch:List GS):(upV ch).cells=[upV ch]:=by cases ch<;>rfl
attribute [simp ↓] ws yw
theorem tC(b0:AO)(fns:List Fd)(k:Nat)(c e:Int)(r:List AO):AC Tryd.prog G aw [.ptr 1 3 0 0,.p (.int .i64 e)] (b0::cO fns k c::r) fun x h=>x= .ret (.tup [])∧h=b0::cO fns k (fl c e)::r:=by
 refine AC.go lr ?_
 by_cases h0:c=0
 ·simp-implicitDefEqProofs[dR,cO,h0,fl]
 ·simp-implicitDefEqProofs[dR,cO,h0,fl]
theorem pZ(up:AV)(hu:up= .nilp∨∃i,up= .ptr i 2 0 0)(h:List AO):AC Tryd.prog G bh [up] h fun x h'=>x= .ret (.ptr (h.length+1) 2 0 0)∧h'=h++[.mp [],.row 2 [[.mp h.length,up]]]:=by
 refine AC.go mJ ?_
 rcases hu with rfl|⟨i,rfl⟩
 ·simp-implicitDefEqProofs[eO]
 ·simp-implicitDefEqProofs[eO]
theorem zt(b0 c0:AO)(ch:List GS)(rest:List AO)(s:List UInt8):AC Tryd.prog G bu [upV ch,.p (.str s)] (b0::c0::(scH ch++rest)) fun x h=>x= .ret (.tup [.p (.int .i64 (((ij (sco ch) s).getD 0:Nat):Int)),.p (.bool (ij (sco ch) s).isSome)])∧h=b0::c0::(scH ch++rest):=by
 refine AC.goB nu fun hb=>?_
 simp-implicitDefEqProofs[iH]
 have hHl:(b0::c0::(scH ch++rest)).length=2+scL ch+rest.length:=by simp only[List.length_cons,List.length_append,iE];omega
 refine aR (fun r:List GS=>am 25 [(0,upV r),(1,.p (.str s))]) (fun _=>b0::c0::(scH ch++rest)) (fun r=>∃pre,ch=pre++r∧ij (sco ch) s=ij (sco r) s) (fun r=>r.length) ch ⟨[],rfl,rfl⟩ ?_ ?_
 ·refine rt (by simp) hb ?_
  rw[hHl]
  exact⟨⟨gL ch (by omega),by simp⟩,⟨by simp,by simp⟩,trivial⟩
 rintro r ⟨pre,e1,e2⟩
 cases r with
 |nil=>
  rw[e2]
  simp-implicitDefEqProofs[upV,ij]
 |cons g up=>
  obtain⟨a1,a2⟩:=zV pre g up
  rw[←e1] at a1 a2
  have b1:=(List.getElem?_eq_some_iff.1 a1).1
  have b2:=(List.getElem?_eq_some_iff.1 a2).1
  have l1:(b0::c0::(scH ch++rest))[2+scL up+g.gap.length]?=some (.mp (mpE g.m)):=by
   rw[show 2+scL up+g.gap.length=(scL up+g.gap.length)+1+1 by omega,List.getElem?_cons_succ,List.getElem?_cons_succ,List.getElem?_append_left b1,a1]
  have l2:(b0::c0::(scH ch++rest))[2+scL up+g.gap.length+1]?=some (.row 2 [[.mp (2+scL up+g.gap.length),upV up]]):=by
   rw[show 2+scL up+g.gap.length+1=(scL up+g.gap.length+1)+1+1 by omega,List.getElem?_cons_succ,List.getElem?_cons_succ,List.getElem?_append_left b2,a2]
  have hmg:=mL s g.m
  have hle:=iE ch
  rw[e2]
  generalize hH:b0::c0::(scH ch++rest)=H at*
  have hup:upV (g::up)= .ptr (2+scL up+g.gap.length+1) 2 0 0:=rfl
  cases hh:fZ g.m s with
  |some n=>
   rw[hh] at hmg
   simp-implicitDefEqProofs[hup,l1,l2,hmg,ij,hh]
  |none=>
   rw[hh] at hmg
   simp-implicitDefEqProofs[hup,l1,l2,hmg,ij,hh]
   refine⟨up,⟨⟨pre++[g],by rw[e1];simp⟩,rfl⟩,by simp,?_⟩
   refine rt ?_ hb ?_
   ·rw[hHl,iE];omega
   ·refine⟨⟨gL up ?_,?_⟩,⟨by simp,by simp⟩,trivial⟩
    ·rw[hHl]
     have:=congrArg List.length e1
     have h3:=(List.getElem?_eq_some_iff.1 l2).1
     rw[hHl] at h3
     omega
    ·simp
end Go.Proofs.YtiojgfhdcpppcaaDoor
namespace Go.Proofs.YtiojgfhdcpppcaaDoor
open Go Go.Aw
set_option maxRecDepth 100000
set_option maxHeartbeats 4000000
variable (G:aG)
theorem Dd{f:FuncId}{args:List AV}{h h1:List AO}{v:AV}(H:AC Tryd.prog G f args h fun x h'=>x= .ret v∧∃l,h'=h1++l)(hl:h1.length=h.length)(ho:∀o∈h1,okO h.length o)(hv:below h.length v):
 AC Tryd.prog G f args h fun x h'=>x= .ret v∧h'=h1:=by
 refine H.wk (fun t v h ⟨e,_⟩=>by cases e) ?_
 rintro u h' ⟨e,l,rfl⟩
 cases e
 refine⟨v,h1,rb (n:=h.length) (Nat.le_refl _) (cR ?_ hl ho) ?_,rfl,rfl⟩
 ·rw[←hl,List.take_left'];rfl
 ·simp[Fgt,hv]
theorem Eh{f:FuncId}{args:List AV}{b0:AO}{fns:List Fd}{k:Nat}{c c':Int}{ch ch':List GS}{v:AV}(H:AC Tryd.prog G f args (CH b0 fns k c ch) fun x h=>x= .ret v∧h=CH b0 fns k c' ch')(hb:okO 0 b0)(hs:ql ch)(hl:scL ch'=scL ch)(rest:List AO)(ha:ah (2+scL ch) args):
 AC Tryd.prog G f args (CH b0 fns k c ch++rest) fun x h=>x= .ret v∧h=CH b0 fns k c' ch'++rest:=by
 refine(AC.pre H rest (by rw[fJ];exact ha) (by rw[fJ];exact vv hb hs (Nat.le_refl _)) ?_).mono ?_
 ·rintro x h ⟨_,rfl⟩;rw[fJ,fJ,hl]
 ·rintro x h ⟨h1,⟨rfl,rfl⟩,rfl⟩
  exact⟨rfl,rfl⟩
def bxs(ch:List GS)(q:List AV):List AO:=[.row 1 [[.ptr 1 3 0 0]],.row 4 [q],.row 1 [[upV ch]]]
def lz(b0:AO)(fns:List Fd)(k:Nat)(ch:List GS)(q:List PV)(hb:okO 0 b0)(hs:ql ch):Vis Int where
 I:=fun c=>CH b0 fns k c ch++bxs ch (q.map .p)
 n:=2+scL ch+3
 F:=bD
 caps:=[.ptr (2+scL ch+2) 1 0 0,.ptr (2+scL ch) 1 0 0]
 len:=fun c=>by rw[List.length_append,fJ];rfl
 ok:=fun c o ho=>by
  rcases List.mem_append.1 ho with h|h
  ·exact vv hb hs (by omega) o h
  ·simp only[bxs,List.mem_cons,List.not_mem_nil,or_false] at h
   rcases h with rfl|rfl|rfl
   ·intro e he;rw[List.mem_singleton.1 he];exact⟨by simp only[below];omega,trivial⟩
   ·intro e he;rw[List.mem_singleton.1 he];exact aW (Nat.zero_le _) _ (by simp)
   ·intro e he;rw[List.mem_singleton.1 he];exact⟨gL ch (by omega),trivial⟩
 capsOk:=by simp[below]
def eH(b0:AO)(fns:List Fd)(k:Nat)(ch:List GS)(q:List PV)(e:Ex)(c:Int):List AO:=b0::cO fns k c::(scH ch++(bxs ch (q.map .p)++[.row 4 [[.p (.int .i64 e.op),.p (.int .i64 e.n),.p (.str e.name),.p (exL e.kids)]]]))
section
variable {b0:AO} {fns:List Fd} {k:Nat} {ch:List GS} {q:List PV} {e:Ex} {c:Int}
theorem eH_eq{hb:okO 0 b0}{hs:ql ch}:(lz b0 fns k ch q hb hs).I c++[.row 4 [[.p (.int .i64 e.op),.p (.int .i64 e.n),.p (.str e.name),.p (exL e.kids)]]]=eH b0 fns k ch q e c:=by
 simp[lz,eH,CH]
theorem BK:(eH b0 fns k ch q e c)[1]?=some (.row 3 [[.p (fdL fns),.p (.int .i64 k),.p (.int .i64 c)]]):=rfl
theorem Bf(i:Nat):(eH b0 fns k ch q e c)[2+scL ch+i]?=(bxs ch (q.map .p)++[.row 4 [[.p (.int .i64 e.op),.p (.int .i64 e.n),.p (.str e.name),.p (exL e.kids)]]])[i]?:=by
 rw[eH,show 2+scL ch+i=(scL ch+i)+1+1 by omega,List.getElem?_cons_succ,List.getElem?_cons_succ]
 exact CF (iE ch) i
theorem yG:(eH b0 fns k ch q e c)[2+scL ch]?=some (.row 1 [[.ptr 1 3 0 0]]):=Bf 0
theorem Fj:(eH b0 fns k ch q e c)[2+scL ch+2]?=some (.row 1 [[upV ch]]):=Bf 2
theorem yY:(eH b0 fns k ch q e c)[2+scL ch+3]?=some (.row 4 [[.p (.int .i64 e.op),.p (.int .i64 e.n),.p (.str e.name),.p (exL e.kids)]]):=Bf 3
end
theorem AZ{fns:List Fd}{s:List UInt8}{j:Nat}(h:dw fns s=some j):j<fns.length:=by
 rw[dw,List.findIdx?_eq_some_iff_getElem] at h;exact h.1
theorem AM(b0:AO){fns:List Fd}{k:Nat}(hf:fns.length≤1073741824)(hk:k≤fns.length)(ch:List GS)(q:List PV)(hb:okO 0 b0)(hs:ql ch)(c:Int)(e:Ex)(he:e.sz≤1073741824):
 AC Tryd.prog G bD (.agg (e.cs.map .p)::(lz b0 fns k ch q hb hs).caps) ((lz b0 fns k ch q hb hs).I c) fun x h=>x= .ret (.tup [])∧h=(lz b0 fns k ch q hb hs).I (ew fns k (sco ch) c e):=by
 refine(lz b0 fns k ch q hb hs).trim G (AC.go jQ ?_) (by simp[below])
 have hec:=e.cs_eq
 have hlen:((lz b0 fns k ch q hb hs).I c).length=2+scL ch+3:=(lz b0 fns k ch q hb hs).len c
 have hcaps:(lz b0 fns k ch q hb hs).caps=[.ptr (2+scL ch+2) 1 0 0,.ptr (2+scL ch) 1 0 0]:=rfl
 have fin:∀c',(∃l,eH b0 fns k ch q e c'=(lz b0 fns k ch q hb hs).I c'++l):=fun c'=>⟨_,eH_eq.symm⟩
 have hfail:∀n,AC Tryd.prog G aw [.ptr 1 3 0 0,.p (.int .i64 n)] (eH b0 fns k ch q e c) fun x h=>x= .ret (.tup [])∧h=eH b0 fns k ch q e (fl c n):=fun n=>tC G b0 fns k c n _
 have hkl:=bQ e.kids
 have hsz:=e.sz_eq
 rw[hcaps]
 simp-implicitDefEqProofs[ft,hec,hlen]
 rw[eH_eq]
 generalize hV:(lz b0 fns k ch q hb hs).I=VI at fin⊢
 by_cases o2:e.op=2
 ·have hfind:AC Tryd.prog G bu [upV ch,.p (.str e.name)] (eH b0 fns k ch q e c) fun x h=>x= .ret (.tup [.p (.int .i64 (((ij (sco ch) e.name).getD 0:Nat):Int)),.p (.bool (ij (sco ch) e.name).isSome)])∧h=eH b0 fns k ch q e c:=zt G b0 (cO fns k c) ch _ e.name
  simp-implicitDefEqProofs[o2,yG,Fj,yY,BK]
  refine hfind.mono ?_
  rintro r h ⟨rfl,rfl⟩
  cases hfs:ij (sco ch) e.name with
  |some n=>
   have hv:ew fns k (sco ch) c e=c:=by simp[ew,o2,hfs]
   rw[hv]
   simp-implicitDefEqProofs[aa]
   exact fin c
  |none=>
   have hv:ew fns k (sco ch) c e=fl c 3:=by simp[ew,o2,hfs]
   rw[hv]
   simp-implicitDefEqProofs[aa,yG]
   refine(hfail 3).mono ?_
   rintro r h ⟨rfl,rfl⟩
   simp-implicitDefEqProofs[aa]
   exact fin _
 by_cases o13:e.op=13
 ·have hfl:fdL fns= .lst 3 (fns.map Fd.cs):=rfl
  have hfk:fdL (fns.take k)= .lst 3 ((fns.map Fd.cs).take k):=by rw[←List.map_take];rfl
  have hxl:exL e.kids= .lst 4 (e.kids.map Ex.cs):=rfl
  have hAt:=Bj G (fns.take k) e.name (by rw[List.length_take];omega)
  rw[hfk] at hAt
  simp-implicitDefEqProofs[o13,yG,Fj,yY,BK,hfl,hk]
  refine hAt.use ?_
  cases hfa:dw (fns.take k) e.name with
  |none=>
   have hv:ew fns k (sco ch) c e=fl c 4:=by simp[ew,o13,hfa]
   rw[hv]
   simp-implicitDefEqProofs[ixI,yG]
   refine(hfail 4).mono ?_
   rintro r h ⟨rfl,rfl⟩
   simp-implicitDefEqProofs[aa]
   exact fin _
  |some j=>
   have hj:=AZ hfa
   rw[List.length_take] at hj
   have hjl:j<fns.length:=by omega
   have hg:=List.getElem?_eq_getElem hjl
   have hjn:¬(j:Int)<0:=by omega
   have hcs:fns[j].cs=[.str fns[j].name,ay fns[j].params,smL fns[j].body]:=rfl
   have hst:ay fns[j].params= .lst 1 (fns[j].params.map fun w=>[.str w]):=rfl
   have hpn:xS fns j=fns[j].params.length:=by simp[xS,hg]
   by_cases hp:fns[j].params.length=e.kids.length
   ·have hv:ew fns k (sco ch) c e=c:=by simp[ew,o13,hfa,hpn,hp]
    rw[hv]
    simp-implicitDefEqProofs[ixI,yG,BK,yY,hjn,hfl,hg,hcs,hst,hxl,hp]
    exact fin _
   ·have hv:ew fns k (sco ch) c e=fl c 5:=by simp[ew,o13,hfa,hpn,hp]
    have hp':¬(fns[j].params.length:Int)=(e.kids.length:Int):=by omega
    rw[hv]
    simp-implicitDefEqProofs[ixI,yG,BK,yY,hjn,hfl,hg,hcs,hst,hxl,hp']
    refine(hfail 5).mono ?_
    rintro r h ⟨rfl,rfl⟩
    simp-implicitDefEqProofs[aa]
    exact fin _
 ·have hv:ew fns k (sco ch) c e=c:=by simp[ew,o2,o13]
  rw[hv]
  simp-implicitDefEqProofs[o2,o13,yY]
  exact fin _
theorem Ck(ch:List GS):upV ch= .nilp∨∃i,upV ch= .ptr i 2 0 0:=by
 cases ch with
 |nil=>exact .inl rfl
 |cons g up=>exact .inr ⟨_,rfl⟩
theorem DE(b0:AO){fns:List Fd}{k:Nat}(hf:fns.length≤1073741824)(hk:k≤fns.length)(ch:List GS)(hb:okO 0 b0)(hs:ql ch)(c:Int)(e:Ex)(he:e.sz≤1073741824):
 AC Tryd.prog G bR [.ptr 1 3 0 0,.agg (e.cs.map .p),upV ch] (CH b0 fns k c ch) fun x h=>x= .ret (.tup [])∧h=CH b0 fns k (e.pre.foldl (ew fns k (sco ch)) c) ch:=by
 refine Dd G (h:=CH b0 fns k c ch) (AC.go lm ?_) (by rw[fJ,fJ]) (by rw[fJ];exact vv hb hs (Nat.le_refl _)) (by simp[below])
 have hec:=e.cs_eq
 have hlen:(CH b0 fns k c ch).length=2+scL ch:=fJ _ _ _ _ _
 have hI:=(Cr G (lz b0 fns k ch e.cs hb hs) (ew fns k (sco ch)) (fun _=>True) 1073741824 (by omega) (fun st x _ hx=>⟨trivial,AM G b0 hf hk ch e.cs hb hs st x hx⟩) (e.sz+1) e (by omega) he c trivial).2
 have hcaps:(lz b0 fns k ch e.cs hb hs).caps=[.ptr (2+scL ch+2) 1 0 0,.ptr (2+scL ch) 1 0 0]:=rfl
 have hF:(lz b0 fns k ch e.cs hb hs).F=bD:=rfl
 have hVI:(lz b0 fns k ch e.cs hb hs).I c=CH b0 fns k c ch++[.row 1 [[.ptr 1 3 0 0]],.row 4 [[.p (.int .i64 e.op),.p (.int .i64 e.n),.p (.str e.name),.p (exL e.kids)]],.row 1 [[upV ch]]]:=by simp[lz,bxs,hec]
 rw[hcaps,hF,hVI,hec] at hI
 have hup:=Ck ch
 generalize upV ch=u at hI hup⊢
 rcases hup with rfl|⟨i,rfl⟩
 ·simp-implicitDefEqProofs[dN,hec,hlen]
  refine hI.mono ?_
  rintro r h ⟨rfl,rfl⟩
  simp-implicitDefEqProofs[aa]
  exact⟨_,rfl⟩
 ·simp-implicitDefEqProofs[dN,hec,hlen]
  refine hI.mono ?_
  rintro r h ⟨rfl,rfl⟩
  simp-implicitDefEqProofs[aa]
  exact⟨_,rfl⟩
end Go.Proofs.YtiojgfhdcpppcaaDoor
namespace Go.Proofs.YtiojgfhdcpppcaaDoor
open Go Go.Aw
set_option maxRecDepth 100000
set_option maxHeartbeats 4000000
def K_impl_checker_block:AK:= .seq (.reg [oM 14 1,oJ 15 (.len false (.t 14)),oK 16 0]) (.blk 0 (.loop (.seq (.reg [oJ 17 (.bin .lss (.t 16) (.t 15))]) (.seq (.cond (.t 17) (.skip) (.exit 0)) (.seq (.blk 1 (.seq (.reg [oJ 18 (.idxS 5 (.t 14) (.t 16)),oJ 19 (.ld (some 5) (.t 18)),oJ 7 (.alloc [(.p (.int .i64 0)),(.p (.str [])),.nils,.nils,.nils]),⟨none,none,.st 5 (.t 7) (.t 19)⟩]) (.seq (.seq (.reg [oF 20 2 7,oL 21 20,oJ 22 (.len false (.t 21)),oK 23 0]) (.blk 2 (.loop (.seq (.reg [oJ 24 (.bin .lss (.t 23) (.t 22))]) (.seq (.cond (.t 24) (.skip) (.exit 2)) (.seq (.blk 3 (.seq (.reg [oJ 25 (.idxS 4 (.t 21) (.t 23)),oJ 26 (.ld (some 4) (.t 25)),oJ 9 (.alloc [(.p (.int .i64 0)),(.p (.int .i64 0)),(.p (.str [])),.nils]),⟨none,none,.st 4 (.t 9) (.t 26)⟩]) (.reg [oM 27 0,oJ 28 (.ld (some 4) (.t 9)),oM 29 2,oJ 30 (.call bR [(.t 27),(.t 28),(.t 29)])]))) (.reg [oJ 31 (.bin .add (.t 23) (.c (.p (.int .i64 1)))),oM 23 31]))))))) (.cut (.seq (.reg [oF 32 0 7,oL 33 32]) (.blk 4 (.seq (.reg [oJ 35 (.bin .eql (.t 33) (.c (.p (.int .i64 1)))),oM 34 35]) (.cond (.t 34) (.seq (.seq (.reg [oM 37 2,oN 38 37,oF 39 0 38,oF 41 1 7,oL 40 39,oL 42 41,oJ 43 (.lk 1 (.p (.int .i64 0)) true (.t 40) (.t 42)),oM 36 43,oJ 44 (.ext 0 (.t 36)),oJ 45 (.ext 1 (.t 36)),oM 10 44,oM 11 45]) (.seq (.reg [oM 46 11]) (.cond (.t 46) (.reg [oM 47 0,oJ 48 (.call aw [(.t 47),(.c (.p (.int .i64 2)))])]) (.skip)))) (.reg [oM 49 2,oN 50 49,oF 51 0 50,oF 53 1 7,oL 52 51,oL 54 53,⟨none,none,.mup 1 (.t 52) (.t 54) (.c (.p (.int .i64 0)))⟩])) (.seq (.reg [oJ 56 (.bin .eql (.t 33) (.c (.p (.int .i64 2)))),oM 55 56]) (.cond (.t 55) (.seq (.reg [oM 58 2,oF 59 1 7,oL 60 59,oJ 61 (.call bu [(.t 58),(.t 60)]),oM 57 61,oJ 62 (.ext 0 (.t 57)),oJ 63 (.ext 1 (.t 57)),oM 12 62,oM 13 63]) (.seq (.reg [oM 64 13,oJ 65 (.not (.t 64))]) (.cond (.t 65) (.reg [oM 66 0,oJ 67 (.call aw [(.t 66),(.c (.p (.int .i64 3)))])]) (.skip)))) (.skip))))))) (.seq (.reg [oF 68 0 7,oL 69 68,oJ 70 (.bin .eql (.t 69) (.c (.p (.int .i64 5)))),oM 71 70,⟨(some 72),some (71,false),.fldA 0 (.t 7)⟩,⟨(some 73),some (71,false),.ld none (.t 72)⟩,⟨(some 74),some (71,false),.bin .eql (.t 73) (.c (.p (.int .i64 6)))⟩,oJ 75 (.pick (.t 71) (.c (.p (.bool true))) (.t 74))]) (.cond (.t 75) (.seq (.reg [oM 76 0,oF 77 3 7,oM 79 2,oL 78 77,oJ 80 (.call bh [(.t 79)]),⟨none,none,.chk none 77 78⟩,oJ 81 (.call aM [(.t 76),(.t 78),(.t 80)])]) (.reg [oM 82 0,oF 83 4 7,oM 85 2,oL 84 83,oJ 86 (.call bh [(.t 85)]),⟨none,none,.chk none 83 84⟩,oJ 87 (.call aM [(.t 82),(.t 84),(.t 86)])])) (.skip))))))) (.reg [oJ 88 (.bin .add (.t 16) (.c (.p (.int .i64 1)))),oM 16 88]))))))
theorem kj:K_impl_checker_block.whole=F_impl_checker_block.ak:=rfl
theorem uf(fns:List Fd)(k:Nat):∀(a b:List Sm) (m:Scp) (up:List Scp) (c:Int),fm fns k (a++b) m up c=fm fns k b (fm fns k a m up c).1 up (fm fns k a m up c).2
 |[],b,m,up,c=>rfl
 |s::r,b,m,up,c=>by rw[List.cons_append,fm,fm,uf fns k r]
theorem yR{fns:List Fd}{k:Nat}{l:List Sm}{m:Scp}{up:List Scp}{c:Int}{i:Nat}(h:i<l.length):fm fns k (l.take (i+1)) m up c=icS fns k l[i] (fm fns k (l.take i) m up c).1 up (fm fns k (l.take i) m up c).2:=by
 rw[au h,uf];rfl
def AX(b0:AO)(fns:List Fd)(k:Nat)(up:List GS)(gap:List AO)(c:Int):List AO:=b0::cO fns k c::(scH up++gap)
theorem Dz(b0:AO)(fns:List Fd)(k:Nat)(up:List GS)(gap:List AO)(c:Int):(AX b0 fns k up gap c).length=2+scL up+gap.length:=by
 simp only[AX,List.length_cons,List.length_append,iE];omega
theorem zN(b0:AO)(fns:List Fd)(k:Nat)(up:List GS)(gap:List AO)(m:Scp)(c:Int)(rest:List AO):CH b0 fns k c (⟨gap,m⟩::up)++rest=AX b0 fns k up gap c++(.mp (mpE m):: .row 2 [[.mp (2+scL up+gap.length),upV up]]::rest):=by
 simp[CH,AX,scH]
theorem BA(b0:AO)(fns:List Fd)(k:Nat)(up:List GS)(gap:List AO)(m:Scp)(c:Int):CH b0 fns k c (⟨gap,m⟩::up)=AX b0 fns k up gap c++[.mp (mpE m),.row 2 [[.mp (2+scL up+gap.length),upV up]]]:=by
 have:=zN b0 fns k up gap m c []
 rwa[List.append_nil] at this
theorem Ff{b0:AO}{fns:List Fd}{k:Nat}{up:List GS}{gap:List AO}(hb:okO 0 b0)(hs:ql up)(hg:∀o∈gap,okO (2+scL up+gap.length) o)(c:Int):∀o∈AX b0 fns k up gap c,okO (2+scL up+gap.length) o:=by
 refine af (bU hb) (af (by intro e he;rw[List.mem_singleton.1 he];simp[below]) ?_)
 intro o ho
 rcases List.mem_append.1 ho with h|h
 ·exact vZ up hs (by omega) o h
 ·exact hg o h
theorem pP{kk L n:Nat}{A r s:List AO}{l l1:List (Nat × AV)}(hl:A.length=L)(hk:kk≤L+r.length)(ha:∀o∈A,okO L o)(hr:∀o∈r,okO (L+r.length) o)(H:FgA (L+r.length) l l1):Wk kk (am n l) (A++(r++s)) (am n l1) (A++r):=by
 have hll:(A++r).length=L+r.length:=by rw[List.length_append,hl]
 refine eM (m:=L+r.length) hk (cR ?_ hll ?_) H
 ·rw[←List.append_assoc,←hll,List.take_left'];rfl
 ·intro o ho
  rcases List.mem_append.1 ho with h|h
  ·exact nq (by omega) (ha o h)
  ·exact hr o h
theorem vn(m:Scp)(n:Nat):okO n (.mp (mpE m)):=by
 intro e he
 obtain⟨x,_,rfl⟩:=List.mem_map.1 he
 simp[below]
variable (G:aG)
theorem BM(b0:AO){fns:List Fd}{k:Nat}(hf:fns.length≤1073741824)(hk:k≤fns.length)(hb:okO 0 b0):∀(N:Nat) (l:List Sm),aC l<N→aC l≤1073741824→∀(gap:List AO) (m:Scp) (up:List GS) (c:Int),ql (⟨gap,m⟩::up)→
 AC Tryd.prog G aM [.ptr 1 3 0 0,.p (smL l),upV (⟨gap,m⟩::up)] (CH b0 fns k c (⟨gap,m⟩::up)) fun x h=>x= .ret (.tup [])∧h=CH b0 fns k (fm fns k l m (sco up) c).2 (⟨gap,(fm fns k l m (sco up) c).1⟩::up):=by
 intro N
 induction N with
 |zero=>intro l h;omega
 |succ N ih=>
  intro l hl hz gap m up c hs
  have hll:=bO l
  have hsl:∀l,smL l= .lst 5 (l.map Sm.cs):=fun _=>rfl
  have hs':∀m,ql (⟨gap,m⟩::up):=fun _=>hs
  have hscl:∀m,scL (⟨gap,m⟩::up)=scL up+gap.length+2:=fun _=>rfl
  refine Dd G (AC.goK kE kj ?_) (by rw[fJ,fJ];rfl) (by rw[fJ];exact vv hb (hs' _) (by rw[hscl];exact Nat.le_of_eq (by rfl))) (by simp[below])
  have hup:upV (⟨gap,m⟩::up)= .ptr (2+scL up+gap.length+1) 2 0 0:=rfl
  have hlenC:∀c m,(CH b0 fns k c (⟨gap,m⟩::up)).length=2+scL up+gap.length+2:=fun c m=>by rw[fJ,hscl];omega
  have hokC:∀c m,∀o∈CH b0 fns k c (⟨gap,m⟩::up),okO (2+scL up+gap.length+2) o:=fun c m=>vv hb (hs' m) (by rw[hscl];omega)
  have hlenA:∀c,(AX b0 fns k up gap c).length=2+scL up+gap.length:=Dz b0 fns k up gap
  simp-implicitDefEqProofs[K_impl_checker_block,F_impl_checker_block,hsl,hup]
  refine aR (fun i:Nat=>am 89 [(0,.ptr 1 3 0 0),(2,.ptr (2+scL up+gap.length+1) 2 0 0),(14,.p (smL l)),(15,.p (.int .i64 l.length)),(16,.p (.int .i64 i))])
   (fun i=>CH b0 fns k (fm fns k (l.take i) m (sco up) c).2 (⟨gap,(fm fns k (l.take i) m (sco up) c).1⟩::up)) (fun i=>i≤l.length) (fun i=>l.length-i) 0 (by simp) ?_ ?_
  ·refine ab (h:=CH b0 fns k c (⟨gap,m⟩::up)) (Nat.le_refl _) (by rw[hlenC];exact hokC _ _) ?_
   rw[hlenC]
   simp[below,hsl]
  intro i hi
  have eT:=fun h=>yR (fns:=fns) (k:=k) (l:=l) (m:=m) (up:=sco up) (c:=c) (i:=i) h
  rw[hlenC]
  generalize hst:fm fns k (l.take i) m (sco up) c=st at eT⊢
  obtain⟨mi,ci⟩:=st
  simp only at eT⊢
  simp-implicitDefEqProofs[hsl]
  refine bc (fun h=>?_) (fun h=>?_)
  ·simp at h
   have hg:=List.getElem?_eq_getElem h
   have hse:=l[i].cs_eq
   have hsz:=l[i].sz_eq
   have hks:=eZ (List.getElem_mem h)
   have eT:=eT h
   generalize l[i]=s at hg hse hsz hks eT
   obtain⟨o,nme,a,bd,el⟩:=s
   simp only[Sm.op,Sm.name,Sm.args,Sm.body,Sm.els] at hse hsz
   have hxl:exL a= .lst 4 (a.map Ex.cs):=rfl
   have hal:=bQ a
   simp-implicitDefEqProofs[hg,hse,hlenC,hxl]
   have hexpr:∀(c:Int) (e:Ex) (rest:List AO),e.sz≤1073741824→AC Tryd.prog G bR [.ptr 1 3 0 0,.agg (e.cs.map .p),.ptr (2+scL up+gap.length+1) 2 0 0] (AX b0 fns k up gap c++(.mp (mpE mi):: .row 2 [[.mp (2+scL up+gap.length),upV up]]::rest)) fun x h=>x= .ret (.tup [])∧h=AX b0 fns k up gap (e.pre.foldl (ew fns k (mi::sco up)) c)++(.mp (mpE mi):: .row 2 [[.mp (2+scL up+gap.length),upV up]]::rest):=by
    intro c e rest he
    have:=Eh G (DE G b0 hf hk (⟨gap,mi⟩::up) hb (hs' mi) c e he) hb (hs' mi) rfl rest (by refine⟨by simp only[below];omega,by simp,gL _ (Nat.le_refl _),trivial⟩)
    simp only[zN] at this
    exact this
   have hfail:∀(c e:Int) (t:List AO),AC Tryd.prog G aw [.ptr 1 3 0 0,.p (.int .i64 e)] (AX b0 fns k up gap c++t) fun x h=>x= .ret (.tup [])∧h=AX b0 fns k up gap (fl c e)++t:=fun c e t=>tC G b0 fns k c e _
   have hfind:∀(c:Int) (m:Scp) (s:List UInt8) (rest:List AO),AC Tryd.prog G bu [.ptr (2+scL up+gap.length+1) 2 0 0,.p (.str s)] (AX b0 fns k up gap c++(.mp (mpE m):: .row 2 [[.mp (2+scL up+gap.length),upV up]]::rest)) fun x h=>x= .ret (.tup [.p (.int .i64 (((ij (m::sco up) s).getD 0:Nat):Int)),.p (.bool (ij (m::sco up) s).isSome)])∧h=AX b0 fns k up gap c++(.mp (mpE m):: .row 2 [[.mp (2+scL up+gap.length),upV up]]::rest):=by
    intro c m s rest
    have:=zt G b0 (cO fns k c) (⟨gap,m⟩::up) rest s
    have e:b0::cO fns k c::(scH (⟨gap,m⟩::up)++rest)=CH b0 fns k c (⟨gap,m⟩::up)++rest:=rfl
    rw[e,zN] at this
    exact this
   have hblk:∀(c:Int) (m2:Scp) (l':List Sm) (gap2:List AO),aC l'<N→aC l'≤1073741824→(∀o∈gap2,okO (2+scL up+gap.length+2+gap2.length) o)→
    AC Tryd.prog G aM [.ptr 1 3 0 0,.p (smL l'),.ptr (2+scL up+gap.length+2+gap2.length+1) 2 0 0] (AX b0 fns k up gap c++(.mp (mpE m2):: .row 2 [[.mp (2+scL up+gap.length),upV up]]::(gap2++[.mp [],.row 2 [[.mp (2+scL up+gap.length+2+gap2.length),.ptr (2+scL up+gap.length+1) 2 0 0]]])))
     fun x h=>x= .ret (.tup [])∧∃m',h=AX b0 fns k up gap (fm fns k l' [] (m2::sco up) c).2++(.mp (mpE m2):: .row 2 [[.mp (2+scL up+gap.length),upV up]]::(gap2++[.mp (mpE m'),.row 2 [[.mp (2+scL up+gap.length+2+gap2.length),.ptr (2+scL up+gap.length+1) 2 0 0]]])):=by
    intro c m2 l' gap2 h1 h2 h3
    have e1:2+scL (⟨gap,m2⟩::up)+gap2.length=2+scL up+gap.length+2+gap2.length:=by rw[hscl];omega
    have e2:∀c m',CH b0 fns k c (⟨gap2,m'⟩::⟨gap,m2⟩::up)=AX b0 fns k up gap c++(.mp (mpE m2):: .row 2 [[.mp (2+scL up+gap.length),upV up]]::(gap2++[.mp (mpE m'),.row 2 [[.mp (2+scL up+gap.length+2+gap2.length),.ptr (2+scL up+gap.length+1) 2 0 0]]])):=by
     intro c m'
     rw[←e1]
     simp[CH,AX,scH,upV]
    have:=ih l' h1 h2 gap2 [] (⟨gap,m2⟩::up) c ⟨by rw[e1];exact h3,hs' m2⟩
    rw[show upV (⟨gap2,[]⟩::⟨gap,m2⟩::up)= .ptr (2+scL up+gap.length+2+gap2.length+1) 2 0 0 by rw[←e1];rfl] at this
    rw[e2] at this
    refine this.mono ?_
    rintro x h ⟨hx,hh⟩
    exact⟨hx,(fm fns k l' [] (sco (⟨gap,m2⟩::up)) c).1,by rw[hh,e2];rfl⟩
   rw[BA b0 fns k up gap mi ci,List.append_assoc]
   simp only[List.cons_append,List.nil_append]
   have hokA:=Ff (fns:=fns) (k:=k) hb hs.2 hs.1
   generalize hL:2+scL up+gap.length=L at hexpr hfind hblk hlenA hlenC hokC hokA⊢
   have hR:okO (L+2) (.row 2 [[.mp L,upV up]]):=by
    intro e he;rw[List.mem_singleton.1 he]
    exact⟨by simp only[below];omega,gL up (by omega),trivial⟩
   have hX:okO 0 (.row 5 [[AV.p (.int .i64 o),.p (.str nme),.p (.lst 4 (a.map Ex.cs)),.p (smL bd),.p (smL el)]]):=by simp[okO]
   have ok3:∀(m:Scp),∀x∈[AO.mp (mpE m),.row 2 [[.mp L,upV up]],.row 5 [[AV.p (.int .i64 o),.p (.str nme),.p (.lst 4 (a.map Ex.cs)),.p (smL bd),.p (smL el)]]],okO (L+3) x:=fun m=>
    af (vn _ _) (af (nq (by omega) hR) (af (bU hX) cy))
   refine aR (fun j:Nat=>am 89 [(0,.ptr 1 3 0 0),(2,.ptr (L+1) 2 0 0),(7,.ptr (L+2) 5 0 0),(14,.p (smL l)),(15,.p (.int .i64 l.length)),(16,.p (.int .i64 i)),(21,.p (exL a)),(22,.p (.int .i64 a.length)),(23,.p (.int .i64 j))])
    (fun j=>AX b0 fns k up gap ((fI (a.take j)).foldl (ew fns k (mi::sco up)) ci)++[.mp (mpE mi),.row 2 [[.mp L,upV up]],.row 5 [[AV.p (.int .i64 o),.p (.str nme),.p (.lst 4 (a.map Ex.cs)),.p (smL bd),.p (smL el)]]])
    (fun j=>j≤a.length) (fun j=>a.length-j) 0 (by simp) ?_ ?_
   ·refine pP (s:=[]) (hlenA _) (by simp) (hokA _) (ok3 _) ?_
    simp[below,hsl,hxl]
   intro j hj
   simp-implicitDefEqProofs[hxl]
   refine bc (fun hc=>?_) (fun hc=>?_)
   ·simp at hc
    have hga:=List.getElem?_eq_getElem hc
    have hka:=cf (List.getElem_mem hc)
    have hkc:=a[j].cs_eq
    have hE:=hexpr ((fI (a.take j)).foldl (ew fns k (mi::sco up)) ci) a[j] [.row 5 [[AV.p (.int .i64 o),.p (.str nme),.p (.lst 4 (a.map Ex.cs)),.p (smL bd),.p (smL el)]],.row 4 [[.p (.int .i64 a[j].op),.p (.int .i64 a[j].n),.p (.str a[j].name),.p (exL a[j].kids)]]] (by omega)
    rw[hkc] at hE
    simp-implicitDefEqProofs[hga,hkc,hlenA]
    refine hE.mono ?_
    rintro r h ⟨rfl,rfl⟩
    simp-implicitDefEqProofs[aa]
    refine⟨j+1,hc,by omega,?_⟩
    have hf2:(fI (a.take (j+1))).foldl (ew fns k (mi::sco up)) ci=a[j].pre.foldl (ew fns k (mi::sco up)) ((fI (a.take j)).foldl (ew fns k (mi::sco up)) ci):=by
     rw[au hc,mQ,List.foldl_append,fI,fI,List.append_nil]
    rw[hf2]
    refine pP (r:=[_,_,_]) (s:=[_]) (hlenA _) (by simp) (hokA _) (ok3 _) ?_
    simp[below,hsl,hxl,w1 (i:=j) (by omega)]
   simp at hc
   have hje:j=a.length:=by omega
   subst hje
   rw[List.take_length]
   have hic:icS fns k ⟨o,nme,a,bd,el⟩ mi (sco up) ci=(opS o nme mi 0,if o=5∨o=6 then(fm fns k el [] (opS o nme mi 0::sco up) (fm fns k bd [] (opS o nme mi 0::sco up) (opC o nme mi (sco up) (wl fns k (mi::sco up) a ci))).2).2 else opC o nme mi (sco up) (wl fns k (mi::sco up) a ci)):=rfl
   rw[hic] at eT
   clear hic
   rw[show(fI a).foldl (ew fns k (mi::sco up)) ci=wl fns k (mi::sco up) a ci from rfl]
   generalize wl fns k (mi::sco up) a ci=c1 at eT⊢
   simp-implicitDefEqProofs[]
   refine iu (am 89 [(0,.ptr 1 3 0 0),(2,.ptr (L+1) 2 0 0),(7,.ptr (L+2) 5 0 0),(14,.p (smL l)),(15,.p (.int .i64 l.length)),(16,.p (.int .i64 i))])
    (AX b0 fns k up gap (opC o nme mi (sco up) c1)++[.mp (mpE (opS o nme mi 0)),.row 2 [[.mp L,upV up]],.row 5 [[AV.p (.int .i64 o),.p (.str nme),.p (.lst 4 (a.map Ex.cs)),.p (smL bd),.p (smL el)]]]) ?_ ?_
   ·have fin:∀(r1:List (Nat × AV)) (c2:Int) (m2:Scp),Aw.look r1 0= .ptr 1 3 0 0→Aw.look r1 2= .ptr (L+1) 2 0 0→Aw.look r1 7= .ptr (L+2) 5 0 0→Aw.look r1 14= .p (smL l)→Aw.look r1 15= .p (.int .i64 l.length)→Aw.look r1 16= .p (.int .i64 i)→
     Wk (L+2) (am 89 r1) (AX b0 fns k up gap c2++[.mp (mpE m2),.row 2 [[.mp L,upV up]],.row 5 [[AV.p (.int .i64 o),.p (.str nme),.p (.lst 4 (a.map Ex.cs)),.p (smL bd),.p (smL el)]]])
      (am 89 [(0,.ptr 1 3 0 0),(2,.ptr (L+1) 2 0 0),(7,.ptr (L+2) 5 0 0),(14,.p (smL l)),(15,.p (.int .i64 l.length)),(16,.p (.int .i64 i))])
      (AX b0 fns k up gap c2++[.mp (mpE m2),.row 2 [[.mp L,upV up]],.row 5 [[AV.p (.int .i64 o),.p (.str nme),.p (.lst 4 (a.map Ex.cs)),.p (smL bd),.p (smL el)]]]):=by
     intro r1 c2 m2 e0 e2 e7 e14 e15 e16
     refine pP (s:=[]) (hlenA _) (by simp) (hokA _) (ok3 _) ?_
     simp[below,e0,e2,e7,e14,e15,e16]
    by_cases o1:o=1
    ·have hmg:=mL nme mi
     have hms:gV (.str nme) (.p (.int .i64 0)) (mpE mi)=some (mpE (im mi nme 0)):=by simpa using qW nme 0 mi
     have e2:opS o nme mi 0=im mi nme 0:=if_pos o1
     rw[e2]
     cases hh:fZ mi nme with
     |none=>
      have e1:opC o nme mi (sco up) c1=c1:=by rw[opC,if_pos o1,hh];rfl
      rw[hh] at hmg
      rw[e1]
      subst o1
      simp-implicitDefEqProofs[hlenA,hmg,hms]
      exact fin _ _ _ (by simp) (by simp) (by simp) (by simp[hsl]) (by simp) (by simp)
     |some n=>
      have e1:opC o nme mi (sco up) c1=fl c1 2:=by rw[opC,if_pos o1,hh];rfl
      rw[hh] at hmg
      rw[e1]
      subst o1
      simp-implicitDefEqProofs[hlenA,hmg,hms]
      refine(hfail c1 2 _).mono ?_
      rintro r h ⟨rfl,rfl⟩
      simp-implicitDefEqProofs[aa,hlenA,hms]
      exact fin _ _ _ (by simp) (by simp) (by simp) (by simp[hsl]) (by simp) (by simp)
    have e2:opS o nme mi 0=mi:=if_neg o1
    rw[e2]
    by_cases o2:o=2
    ·cases hh:ij (mi::sco up) nme with
     |none=>
      have e1:opC o nme mi (sco up) c1=fl c1 3:=by rw[opC,if_neg o1,if_pos o2,hh];rfl
      rw[e1]
      subst o2
      have hF:=hfind c1 mi nme [.row 5 [[AV.p (.int .i64 2),.p (.str nme),.p (.lst 4 (a.map Ex.cs)),.p (smL bd),.p (smL el)]]]
      rw[hh] at hF
      simp-implicitDefEqProofs[hlenA]
      refine hF.mono ?_
      rintro r h ⟨rfl,rfl⟩
      simp-implicitDefEqProofs[aa]
      refine(hfail c1 3 _).mono ?_
      rintro r h ⟨rfl,rfl⟩
      simp-implicitDefEqProofs[aa]
      exact fin _ _ _ (by simp) (by simp) (by simp) (by simp[hsl]) (by simp) (by simp)
     |some n=>
      have e1:opC o nme mi (sco up) c1=c1:=by rw[opC,if_neg o1,if_pos o2,hh];rfl
      rw[e1]
      subst o2
      have hF:=hfind c1 mi nme [.row 5 [[AV.p (.int .i64 2),.p (.str nme),.p (.lst 4 (a.map Ex.cs)),.p (smL bd),.p (smL el)]]]
      rw[hh] at hF
      simp-implicitDefEqProofs[hlenA]
      refine hF.mono ?_
      rintro r h ⟨rfl,rfl⟩
      simp-implicitDefEqProofs[aa]
      exact fin _ _ _ (by simp) (by simp) (by simp) (by simp[hsl]) (by simp) (by simp)
    ·have e1:opC o nme mi (sco up) c1=c1:=by rw[opC,if_neg o1,if_neg o2]
     rw[e1]
     simp-implicitDefEqProofs[hlenA,o1,o2]
     exact fin _ _ _ (by simp) (by simp) (by simp) (by simp[hsl]) (by simp) (by simp)
   generalize opC o nme mi (sco up) c1=c2 at eT⊢
   generalize opS o nme mi 0=m2 at eT⊢
   have hdrop:∀(r1:List (Nat × AV)) (c3:Int) (s:List AO),Aw.look r1 0= .ptr 1 3 0 0→Aw.look r1 2= .ptr (L+1) 2 0 0→Aw.look r1 14= .p (smL l)→Aw.look r1 15= .p (.int .i64 l.length)→Aw.look r1 16= .p (.int .i64 ((i:Int)+1))→
    Wk (L+2) (am 89 r1) (AX b0 fns k up gap c3++([.mp (mpE m2),.row 2 [[.mp L,upV up]]]++s)) (am 89 [(0,.ptr 1 3 0 0),(2,.ptr (L+1) 2 0 0),(14,.p (smL l)),(15,.p (.int .i64 l.length)),(16,.p (.int .i64 ((i:Int)+1)))]) (CH b0 fns k c3 (⟨gap,m2⟩::up)):=by
    intro r1 c3 s e0 e2 e14 e15 e16
    rw[BA,hL]
    refine pP (hlenA _) (by simp) (hokA _) (af (vn _ _) (af hR cy)) ?_
    simp[below,e0,e2,e14,e15,e16]
   by_cases ho:o=5∨o=6
   ·rw[if_pos ho] at eT
    rcases ho with o5|o6
    ·subst o5
     simp-implicitDefEqProofs[hlenA]
     refine(pZ G (.ptr (L+1) 2 0 0) (.inr ⟨_,rfl⟩) _).mono ?_
     rintro r h ⟨rfl,rfl⟩
     simp-implicitDefEqProofs[aa,hlenA]
     refine(hblk c2 m2 bd [_] (by omega) (by omega) (fun x hx=>by rw[List.mem_singleton.1 hx];exact bU (by simp[okO]))).mono ?_
     rintro r h ⟨rfl,m3,rfl⟩
     simp-implicitDefEqProofs[aa,hlenA]
     refine(pZ G (.ptr (L+1) 2 0 0) (.inr ⟨_,rfl⟩) _).mono ?_
     rintro r h ⟨rfl,rfl⟩
     simp-implicitDefEqProofs[aa,hlenA]
     refine(hblk _ m2 el [_,_,_] (by omega) (by omega) (af (bU (by simp[okO])) (af (vn _ _) (af (by
      intro e he;rw[List.mem_singleton.1 he]
      exact⟨by simp only[below];simp,by simp only[below];simp,trivial⟩) cy)))).mono ?_
     rintro r h ⟨rfl,m4,rfl⟩
     simp-implicitDefEqProofs[aa,hlenA]
     refine⟨i+1,by omega,by omega,?_⟩
     rw[eT]
     refine hdrop _ _ _ (by simp) (by simp) (by simp[hsl]) (by simp) (by simp[w1 (i:=i) (by omega)])
    ·subst o6
     simp-implicitDefEqProofs[hlenA]
     refine(pZ G (.ptr (L+1) 2 0 0) (.inr ⟨_,rfl⟩) _).mono ?_
     rintro r h ⟨rfl,rfl⟩
     simp-implicitDefEqProofs[aa,hlenA]
     refine(hblk c2 m2 bd [_] (by omega) (by omega) (fun x hx=>by rw[List.mem_singleton.1 hx];exact bU (by simp[okO]))).mono ?_
     rintro r h ⟨rfl,m3,rfl⟩
     simp-implicitDefEqProofs[aa,hlenA]
     refine(pZ G (.ptr (L+1) 2 0 0) (.inr ⟨_,rfl⟩) _).mono ?_
     rintro r h ⟨rfl,rfl⟩
     simp-implicitDefEqProofs[aa,hlenA]
     refine(hblk _ m2 el [_,_,_] (by omega) (by omega) (af (bU (by simp[okO])) (af (vn _ _) (af (by
      intro e he;rw[List.mem_singleton.1 he]
      exact⟨by simp only[below];simp,by simp only[below];simp,trivial⟩) cy)))).mono ?_
     rintro r h ⟨rfl,m4,rfl⟩
     simp-implicitDefEqProofs[aa,hlenA]
     refine⟨i+1,by omega,by omega,?_⟩
     rw[eT]
     refine hdrop _ _ _ (by simp) (by simp) (by simp[hsl]) (by simp) (by simp[w1 (i:=i) (by omega)])
   ·rw[if_neg ho] at eT
    have o5:¬o=5:=fun h=>ho (.inl h)
    have o6:¬o=6:=fun h=>ho (.inr h)
    simp-implicitDefEqProofs[hlenA,o5,o6]
    refine⟨i+1,by omega,by omega,?_⟩
    rw[eT]
    refine hdrop _ _ [_] (by simp) (by simp) (by simp[hsl]) (by simp) (by simp[w1 (i:=i) (by omega)])
  ·simp at h
   have hie:i=l.length:=by omega
   subst hie
   rw[List.take_length] at hst
   rw[hst]
   simp-implicitDefEqProofs[]
end Go.Proofs.YtiojgfhdcpppcaaDoor
namespace Go.Proofs.YtiojgfhdcpppcaaDoor
open Go Go.Aw
set_option maxRecDepth 100000
set_option maxHeartbeats 4000000
def K_impl_CheckProgram:AK:= .seq (.reg [oJ 1 (.box 1 (.t 0)),oK 2 0]) (.seq (.seq (.reg [oJ 11 (.ld (some 1) (.t 1)),oJ 12 (.call cL [(.t 11)]),oJ 13 (.not (.t 12))]) (.cond (.t 13) (.seq (.reg [oK 2 1]) (.ret)) (.skip))) (.seq (.reg [oJ 14 (.ld (some 1) (.t 1)),oJ 15 (.bld [.nils,(.p (.int .i64 0)),(.p (.int .i64 0))] [(0,1,(.t 14))]),oJ 16 (.box 3 (.t 15)),oM 3 16]) (.seq (.seq (.reg [oF 17 0 1,oL 18 17,oJ 19 (.len false (.t 18)),oK 20 0]) (.blk 0 (.loop (.seq (.reg [oJ 21 (.bin .lss (.t 20) (.t 19))]) (.seq (.cond (.t 21) (.skip) (.exit 0)) (.seq (.blk 1 (.seq (.reg [oM 22 20,oJ 23 (.idxS 3 (.t 18) (.t 20)),oJ 24 (.ld (some 3) (.t 23)),oJ 5 (.alloc [(.p (.str [])),.nils,.nils]),oM 4 22,⟨none,none,.st 3 (.t 5) (.t 24)⟩]) (.seq (.reg [oM 25 3,oM 26 4,oN 27 25,oF 28 1 27,oS 28 26]) (.cut (.seq (.reg [oJ 29 (.ld (some 1) (.t 1)),oF 30 0 5,oL 31 30,oJ 32 (.call ga [(.t 29),(.t 31)]),oM 33 4,oJ 34 (.bin .lss (.t 32) (.t 33))]) (.cond (.t 34) (.reg [oM 35 3,oJ 36 (.call aw [(.t 35),(.c (.p (.int .i64 2)))])]) (.skip))) (.seq (.reg [oJ 37 (.call bh [(.c .nilp)]),oM 6 37]) (.seq (.seq (.reg [oF 38 1 5,oL 39 38,oJ 40 (.len false (.t 39)),oK 41 0]) (.blk 2 (.loop (.seq (.reg [oJ 42 (.bin .lss (.t 41) (.t 40))]) (.seq (.cond (.t 42) (.skip) (.exit 2)) (.seq (.blk 3 (.seq (.reg [oJ 43 (.idxS 1 (.t 39) (.t 41)),oL 44 43,oM 8 44]) (.seq (.seq (.reg [oM 46 6,oN 47 46,oF 48 0 47,oL 49 48,oM 50 8,oJ 51 (.lk 1 (.p (.int .i64 0)) true (.t 49) (.t 50)),oM 45 51,oJ 52 (.ext 0 (.t 45)),oJ 53 (.ext 1 (.t 45)),oM 9 52,oM 10 53]) (.seq (.reg [oM 54 10]) (.cond (.t 54) (.reg [oM 55 3,oJ 56 (.call aw [(.t 55),(.c (.p (.int .i64 2)))])]) (.skip)))) (.reg [oM 57 6,oN 58 57,oF 59 0 58,oL 60 59,oM 61 8,⟨none,none,.mup 1 (.t 60) (.t 61) (.c (.p (.int .i64 0)))⟩])))) (.reg [oJ 62 (.bin .add (.t 41) (.c (.p (.int .i64 1)))),oM 41 62]))))))) (.reg [oM 63 3,oF 64 2 5,oL 65 64,oM 66 6,oJ 67 (.call aM [(.t 63),(.t 65),(.t 66)])]))))))) (.reg [oJ 68 (.bin .add (.t 20) (.c (.p (.int .i64 1)))),oM 20 68]))))))) (.seq (.reg [oM 69 3,oN 70 69,oF 71 2 70,oL 72 71,oM 2 72]) (.ret)))))
theorem lw:K_impl_CheckProgram.whole=F_impl_CheckProgram.ak:=rfl
theorem sJ(fns:List Fd):∀(a b:List Fd) (k:Nat) (c:Int),ia fns k (a++b) c=ia fns (k+a.length) b (ia fns k a c)
 |[],b,k,c=>rfl
 |f::r,b,k,c=>by rw[List.cons_append,ia,ia,sJ fns r];congr 1;simp only[List.length_cons];omega
theorem wy{fns l:List Fd}{i:Nat}{c:Int}(h:i<l.length):ia fns 0 (l.take (i+1)) c=icF fns i l[i] (ia fns 0 (l.take i) c):=by
 rw[au h,sJ,List.length_take,Nat.min_eq_left (Nat.le_of_lt h),Nat.zero_add];rfl
theorem zi(a b:List (List UInt8))(m:Scp)(c:Int):iV (a++b) m c=iV b (iV a m c).1 (iV a m c).2:=by simp[iV]
theorem yP{l:List (List UInt8)}{i:Nat}{m:Scp}{c:Int}(h:i<l.length):iV (l.take (i+1)) m c=(im (iV (l.take i) m c).1 l[i] 0,if(fZ (iV (l.take i) m c).1 l[i]).isSome then fl (iV (l.take i) m c).2 2 else(iV (l.take i) m c).2):=by
 rw[au h,zi];rfl
variable (G:aG) (hK:G iW=some gm) (hS:G gR=some [.tbl opK opV])
include hK hS
theorem kL(l:List Fd)(hl:aN l≤1073741824):VF Tryd.prog G bS [.agg [.p (fdL l)]] (.p (.int .i64 (cD l))):=by
 have hll:=ck l
 have hfl:∀l,fdL l= .lst 3 (l.map Fd.cs):=fun _=>rfl
 rw[wP]
 refine AC.goK lB lw ?_
 simp-implicitDefEqProofs[K_impl_CheckProgram,F_impl_CheckProgram]
 refine(qk G hK hS l hl).use ?_
 by_cases hv:br l=true
 case neg=>
  have hv':br l=false:=by simpa using hv
  simp-implicitDefEqProofs[hv']
 rw[if_pos hv]
 simp-implicitDefEqProofs[hv,hfl]
 refine aR (fun i:Nat=>am 73 [(1,.ptr 0 1 0 0),(3,.ptr 1 3 0 0),(18,.p (fdL l)),(19,.p (.int .i64 l.length)),(20,.p (.int .i64 i))])
  (fun i=>[.row 1 [[.p (fdL l)]],cO l (i-1) (ia l 0 (l.take i) 0)]) (fun i=>i≤l.length) (fun i=>l.length-i) 0 (by simp) ?_ ?_
 ·refine ab (h:=[.row 1 [[.p (fdL l)]],cO l 0 0]) (by simp) (by simp[okO,below,cO]) (by simp[below,hfl])
 intro i hi
 have hbo:okO 0 (.row 1 [[.p (fdL l)]]):=by simp[okO]
 simp-implicitDefEqProofs[hfl]
 refine bc (fun h=>?_) (fun h=>?_)
 ·simp at h
  have hg:=List.getElem?_eq_getElem h
  have hks:=dg (List.getElem_mem h)
  have eT:=wy (fns:=l) (c:=0) h
  obtain⟨j,ej,ejl⟩:=sw hg
  generalize l[i]=f at*
  have hcs:f.cs=[.str f.name,ay f.params,smL f.body]:=rfl
  have hfz:f.sz=1+f.name.length+(f.params.length+(f.params.map List.length).sum)+aC f.body:=rfl
  have hst:ay f.params= .lst 1 (f.params.map fun w=>[.str w]):=rfl
  generalize ia l 0 (l.take i) 0=c0 at eT⊢
  simp-implicitDefEqProofs[hg,hcs,cO]
  have hic:icF l i f c0=(fm l i f.body (iV f.params [] (if j<i then fl c0 2 else c0)).1 [] (iV f.params [] (if j<i then fl c0 2 else c0)).2).2:=by
   rw[icF,ej];simp
  rw[hic] at eT
  clear hic
  refine iu (am 73 [(1,.ptr 0 1 0 0),(3,.ptr 1 3 0 0),(4,.p (.int .i64 i)),(5,.ptr 2 3 0 0),(18,.p (fdL l)),(19,.p (.int .i64 l.length)),(20,.p (.int .i64 i))])
   [.row 1 [[.p (fdL l)]],cO l i (if j<i then fl c0 2 else c0),.row 3 [[.p (.str f.name),.p (ay f.params),.p (smL f.body)]]] ?_ ?_
  ·simp-implicitDefEqProofs[]
   refine(Bj G l f.name (by omega)).use ?_
   rw[ej]
   by_cases hj:j<i
   ·have hj':(j:Int)<(i:Int):=by omega
    rw[if_pos hj]
    simp-implicitDefEqProofs[ixI,hj']
    refine(tC G (.row 1 [[.p (fdL l)]]) l i c0 2 [.row 3 [[.p (.str f.name),.p (ay f.params),.p (smL f.body)]]]).mono ?_
    rintro r h ⟨rfl,rfl⟩
    simp-implicitDefEqProofs[aa]
    exact ab (by simp) (by simp[okO,below,cO]) (by simp[below,hfl])
   ·have hj':¬(j:Int)<(i:Int):=by omega
    rw[if_neg hj]
    simp-implicitDefEqProofs[ixI,hj']
    exact ab (h:=[.row 1 [[.p (fdL l)]],cO l i c0,.row 3 [[.p (.str f.name),.p (ay f.params),.p (smL f.body)]]]) (by simp) (by simp[okO,below,cO]) (by simp[below,hfl])
  generalize (if j<i then fl c0 2 else c0)=c1 at eT⊢
  have hCH:∀(c:Int) (m:Scp),CH (.row 1 [[.p (fdL l)]]) l i c [⟨[.row 3 [[.p (.str f.name),.p (ay f.params),.p (smL f.body)]]],m⟩]=[.row 1 [[.p (fdL l)]],cO l i c,.row 3 [[.p (.str f.name),.p (ay f.params),.p (smL f.body)]],.mp (mpE m),.row 2 [[.mp 3,.nilp]]]:=fun _ _=>rfl
  simp-implicitDefEqProofs[]
  refine(pZ G .nilp (.inl rfl) _).mono ?_
  rintro r h ⟨rfl,rfl⟩
  simp-implicitDefEqProofs[aa,hst]
  refine aR (fun q:Nat=>am 73 [(1,.ptr 0 1 0 0),(3,.ptr 1 3 0 0),(4,.p (.int .i64 i)),(5,.ptr 2 3 0 0),(6,.ptr 4 2 0 0),(18,.p (fdL l)),(19,.p (.int .i64 l.length)),(20,.p (.int .i64 i)),(39,.p (ay f.params)),(40,.p (.int .i64 f.params.length)),(41,.p (.int .i64 q))])
   (fun q=>[.row 1 [[.p (fdL l)]],cO l i (iV (f.params.take q) [] c1).2,.row 3 [[.p (.str f.name),.p (ay f.params),.p (smL f.body)]],.mp (mpE (iV (f.params.take q) [] c1).1),.row 2 [[.mp 3,.nilp]]])
   (fun q=>q≤f.params.length) (fun q=>f.params.length-q) 0 (by simp) ?_ ?_
  ·exact ab (h:=[.row 1 [[.p (fdL l)]],cO l i c1,.row 3 [[.p (.str f.name),.p (ay f.params),.p (smL f.body)]],.mp [],.row 2 [[.mp 3,.nilp]]]) (by simp) (by simp[okO,below,cO]) (by simp[below,hfl,hst])
  intro q hq
  have eP:=fun h=>yP (l:=f.params) (i:=q) (m:=[]) (c:=c1) h
  generalize hP:iV (f.params.take q) [] c1=st at eP⊢
  obtain⟨mq,cq⟩:=st
  simp only at eP⊢
  simp-implicitDefEqProofs[hst]
  refine bc (fun hc=>?_) (fun hc=>?_)
  ·simp at hc
   have hga:=List.getElem?_eq_getElem hc
   have eP:=eP hc
   generalize f.params[q]=nme at hga eP
   have hmg:=mL nme mq
   have hms:gV (.str nme) (.p (.int .i64 0)) (mpE mq)=some (mpE (im mq nme 0)):=by simpa using qW nme 0 mq
   have fin:∀(r1:List (Nat × AV)) (c2:Int),Aw.look r1 1= .ptr 0 1 0 0→Aw.look r1 3= .ptr 1 3 0 0→Aw.look r1 4= .p (.int .i64 i)→Aw.look r1 5= .ptr 2 3 0 0→Aw.look r1 6= .ptr 4 2 0 0→Aw.look r1 18= .p (fdL l)→Aw.look r1 19= .p (.int .i64 l.length)→Aw.look r1 20= .p (.int .i64 i)→Aw.look r1 39= .p (ay f.params)→Aw.look r1 40= .p (.int .i64 f.params.length)→Aw.look r1 41= .p (.int .i64 ((q:Int)+1))→
    Wk 0 (am 73 r1) [.row 1 [[.p (fdL l)]],cO l i c2,.row 3 [[.p (.str f.name),.p (ay f.params),.p (smL f.body)]],.mp (mpE (im mq nme 0)),.row 2 [[.mp 3,.nilp]]]
     (am 73 [(1,.ptr 0 1 0 0),(3,.ptr 1 3 0 0),(4,.p (.int .i64 i)),(5,.ptr 2 3 0 0),(6,.ptr 4 2 0 0),(18,.p (fdL l)),(19,.p (.int .i64 l.length)),(20,.p (.int .i64 i)),(39,.p (ay f.params)),(40,.p (.int .i64 f.params.length)),(41,.p (.int .i64 ((q:Int)+1)))])
     [.row 1 [[.p (fdL l)]],cO l i c2,.row 3 [[.p (.str f.name),.p (ay f.params),.p (smL f.body)]],.mp (mpE (im mq nme 0)),.row 2 [[.mp 3,.nilp]]]:=by
    intro r1 c2 e1 e3 e4 e5 e6 e18 e19 e20 e39 e40 e41
    refine ab (by simp) (af (by simp[okO]) (af (by simp[okO,cO]) (af (by simp[okO]) (af (vn _ _) (af (by simp[okO,below]) cy))))) ?_
    simp[below,e1,e3,e4,e5,e6,e18,e19,e20,e39,e40,e41]
   cases hh:fZ mq nme with
   |none=>
    rw[hh] at hmg eP
    simp-implicitDefEqProofs[hga,hmg,hms]
    refine⟨q+1,by omega,by omega,?_⟩
    rw[eP]
    exact fin _ _ (by simp) (by simp) (by simp) (by simp) (by simp) (by simp[hfl]) (by simp) (by simp) (by simp[hst]) (by simp) (by simp[w1 (i:=q) (by omega)])
   |some n=>
    rw[hh] at hmg eP
    simp-implicitDefEqProofs[hga,hmg,hms]
    refine(tC G (.row 1 [[.p (fdL l)]]) l i cq 2 _).mono ?_
    rintro r h ⟨rfl,rfl⟩
    simp-implicitDefEqProofs[aa,hms]
    refine⟨q+1,by omega,by omega,?_⟩
    rw[eP]
    exact fin _ _ (by simp) (by simp) (by simp) (by simp) (by simp) (by simp[hfl]) (by simp) (by simp) (by simp[hst]) (by simp) (by simp[w1 (i:=q) (by omega)])
  ·simp at hc
   have hqe:q=f.params.length:=by omega
   subst hqe
   rw[List.take_length] at hP
   rw[hP] at eT
   simp only at eT
   have hB:=BM G (.row 1 [[.p (fdL l)]]) (fns:=l) (k:=i) (by omega) (by omega) hbo (aC f.body+1) f.body (by omega) (by omega) [.row 3 [[.p (.str f.name),.p (ay f.params),.p (smL f.body)]]] mq [] cq ⟨by simp[okO],trivial⟩
   rw[hCH] at hB
   simp-implicitDefEqProofs[]
   refine hB.mono ?_
   rintro r h ⟨rfl,rfl⟩
   simp-implicitDefEqProofs[aa]
   refine⟨i+1,by omega,by omega,?_⟩
   rw[eT]
   refine eM (m:=2) (by omega) (cR rfl rfl (by simp[okO,below,cO])) (by simp[below,hfl,w1 (i:=i) (by omega)])
 ·simp at h
  have hie:i=l.length:=by omega
  subst hie
  rw[List.take_length]
  simp-implicitDefEqProofs[cO]
end Go.Proofs.YtiojgfhdcpppcaaDoor
namespace Go.Proofs.YtiojgfhdcpppcaaDoor
open Go Go.Aw
set_option maxRecDepth 100000
set_option maxHeartbeats 4000000
theorem Fd.cs_eq'(f:Fd):f.cs=[.str f.name,ay f.params,smL f.body]:=rfl
variable (G:aG)
end Go.Proofs.YtiojgfhdcpppcaaDoor
namespace Go.Proofs.YtiojgfhdcpppcaaDoor
open Go Go.Aw Go.ChangeShapes Go.WideShapes Go.ChangeAt Go.RowKit
set_option maxRecDepth 100000
theorem Fp:Kids Tryd.prog (· <Tryd.prog.types.size):=kids_rows (by kernel_rfl) (by kernel_rfl)
theorem FX:∀t e,t<Tryd.prog.types.size→Tryd.prog.underlying t=some (.slice e)→0<Tryd.prog.cellsOf e:=slices_full_of Tryd.prog (by kernel_rfl)
def Bw:List TypeId:=[24,22,80,36,9,78,144,142,166,3,4,104,161]
theorem zn:Plain Tryd.prog Bw=true:=by kernel_rfl
theorem Hb:ownKnob Tryd.prog.godebug=none:=by kernel_rfl
theorem qI{H:Type}:∀l:List (DataW H),Rows.uptoBulkAll l=(l.map Rows.uptoBulk).sum
 |[]=>by simp[Rows.uptoBulkAll]
 |d::r=>by simp[Rows.uptoBulkAll,qI r]
theorem BL{H:Type}:BulkOk (Rows.uptoBulk (H:=H)) where
 lit:=fun l=>by cases l<;>simp[Rows.uptoBulk]
 str:=fun s=>by simp[Rows.uptoBulk]
 nil:=by simp[Rows.uptoBulk]
 slice:=fun es sp=>by simp only[Rows.uptoBulk,qI];omega
 agg:=fun ps=>by simp only[Rows.uptoBulk,qI];omega
theorem Ak{t e:TypeId}{vs:List PV}(h:Conf Tryd.prog t vs)(hu:Tryd.prog.underlying t=some (.slice e)):∃es,vs=[.lst (Tryd.prog.cellsOf e) es]∧es.length≤9223372036854775807∧∀x∈es,Conf Tryd.prog e x:=by
 cases h with
 |sl es e' hl hs=>rw[hu] at e';cases e';exact⟨es,rfl,hl,hs⟩
 |bool b e=>rw[e] at hu;cases hu
 |int n e=>rw[e] at hu;cases hu
 |str s e=>rw[e] at hu;cases hu
 |st vs e=>rw[e] at hu;cases hu
 |arr vs e=>rw[e] at hu;cases hu
def G0:aG:=fun g=>if g=0 then some gm else if g=1 then some [.tbl opK opV] else none
theorem Dx:∀k,fz Tryd.prog (k+10) 104 (Rows.laid_loop_example_wholeway_impl_keys (H:=Unit))=gm:=fun k=>by kernel_rfl
theorem Hh{W:World}{laid:List (String × DataW Unit)}(hL:laidMet Tryd.prog laid W)(h1:("loop.example/wholeway/impl.keys",Rows.laid_loop_example_wholeway_impl_keys)∈laid)(h2:("loop.example/wholeway/impl.opSign",Rows.laid_loop_example_wholeway_impl_opSign)∈laid):
 ∀g cs,G0 g=some cs→g<W.heap.size∧∀(j:Nat) (c:PV),cs[j]?=some c→∃v,W.cell? ⟨g,j,none⟩=some v∧PRel W (· <W.heap.size) c v:=by
 intro g cs h
 unfold G0 at h
 split at h
 ·rename_i e;subst e;cases h
  exact xV zn hL (n:= "loop.example/wholeway/impl.keys") (d:=Rows.laid_loop_example_wholeway_impl_keys) (t:=104) h1 (by kernel_rfl) (by kernel_rfl) (by decide) Dx
 ·split at h
  ·rename_i e;subst e;cases h
   exact Bc zn hL (n:= "loop.example/wholeway/impl.opSign") h2 (t:=162) (k:=3) (e:=161) (by kernel_rfl) (by kernel_rfl) (by kernel_rfl) (.inl ⟨.i64,by kernel_rfl⟩) (by decide) (by kernel_rfl) (by kernel_rfl) (fun m=>by kernel_rfl)
  ·cases h
end Go.Proofs.YtiojgfhdcpppcaaDoor
namespace Go.Proofs.YtiojgfhdcpppcaaDoor
open Go Go.Aw
set_option maxRecDepth 100000
set_option maxHeartbeats 4000000
def Byt(l:List Int):Prop:=∀n∈l,0≤n∧n≤255
def rdO(b:List Int)(p:Nat):AO:= .row 2 [[.p (mT b),.p (.int .i64 p)]]
theorem yi{a b:Int}(ha:0≤a)(ha2:a<4611686018427387904)(hb:0≤b)(hb2:b<4611686018427387904):∃n:Nat,IntKind.i64.wrap ((BitVec.ofInt IntKind.i64.bits a^^^BitVec.ofInt IntKind.i64.bits b).toNat:Int)=n:=by
 refine⟨(BitVec.ofInt IntKind.i64.bits a^^^BitVec.ofInt IntKind.i64.bits b).toNat,?_⟩
 obtain⟨x,rfl⟩:∃x:Nat,a=x:=⟨a.toNat,by omega⟩
 obtain⟨y,rfl⟩:∃y:Nat,b=y:=⟨b.toNat,by omega⟩
 have h1:(BitVec.ofInt 64 (x:Int)).toNat=x:=by simp;omega
 have h2:(BitVec.ofInt 64 (y:Int)).toNat=y:=by simp;omega
 have h3:(BitVec.ofInt 64 (x:Int)^^^BitVec.ofInt 64 (y:Int)).toNat<2^63:=by
  rw[BitVec.toNat_xor,h1,h2]
  exact Nat.xor_lt_two_pow (by omega) (by omega)
 have h4:(BitVec.ofInt IntKind.i64.bits (x:Int)^^^BitVec.ofInt IntKind.i64.bits (y:Int)).toNat<2^63:=h3
 exact ag (by omega) (by omega)
theorem xC{a:Nat}{n:Int}(hn:1≤n):∃k:Nat,((a:Int).tmod n)=k∧(k:Int)<n:=by
 obtain⟨m,rfl⟩:∃m:Nat,n=m:=⟨n.toNat,by omega⟩
 refine⟨a%m,?_,?_⟩
 ·rfl
 ·have:a%m<m:=Nat.mod_lt _ (by omega)
  omega
variable (G:aG)
theorem DF(l:List Int):AC Tryd.prog G eN [.p (mT l)] [] fun x h=>x= .ret (.ptr 0 2 0 0)∧h=[rdO (l.take 2000) 0]:=by
 refine AC.go pV ?_
 have hbl:mT l= .lst 1 (l.map fun n=>[.int .u8 n]):=rfl
 simp-implicitDefEqProofs[jZ,hbl]
 refine bc (fun h=>?_) (fun h=>?_)
 ·simp at h
  have:2000≤l.length:=by omega
  simp-implicitDefEqProofs[this,rdO,mT,List.map_take]
 ·simp at h
  have:l.take 2000=l:=List.take_of_length_le (by omega)
  simp-implicitDefEqProofs[rdO,this,mT]
theorem za(b:List Int)(hb:Byt b)(hl:b.length≤2000)(p:Nat)(hp:p≤1099511627776)(n:Int):AC Tryd.prog G ae [.ptr 0 2 0 0,.p (.int .i64 n)] [rdO b p] fun x h=>∃k:Nat,x= .ret (.p (.int .i64 k))∧h=[rdO b (p+1)]∧((k:Int)<n∨k=0):=by
 refine AC.go mM ?_
 have hbl:mT b= .lst 1 (b.map fun n=>[.int .u8 n]):=rfl
 have hw:IntKind.i64.wrap ((p:Int)+1)=((p+1:Nat):Int):=w1 (by omega)
 by_cases hn:n<1
 ·simp-implicitDefEqProofs[dt,rdO,hbl,hw,hn]
  exact⟨0,rfl,.inr rfl⟩
 by_cases hbn:b=[]
 ·subst hbn
  have hb0:mT []= .lst 1 []:=rfl
  simp-implicitDefEqProofs[dt,rdO,hb0,hw,hn]
  exact⟨0,rfl,.inr rfl⟩
 have hpos:0<b.length:=List.length_pos_iff.2 hbn
 have hlb:¬b.length=0:=by omega
 have hn0:¬n=0:=by omega
 have hw2:IntKind.i64.wrap (p:Int)=(p:Int):=ag (by omega) (by omega)
 have at_:∀q:Nat,∃c:Int,b[q%b.length]?=some c∧0≤c∧c≤255:=fun q=>by
  have h:=Nat.mod_lt q hpos
  exact⟨_,List.getElem?_eq_getElem h,hb _ (List.getElem_mem h)⟩
 simp-implicitDefEqProofs[dt,rdO,hbl,hw,hn,hbn,hw2]
 refine bc (fun h1=>?_) (fun h1=>?_)
 ·simp at h1
  obtain⟨c,e1,e2,e3⟩:=at_ p
  rw[Nat.mod_eq_of_lt h1] at e1
  obtain⟨d,rfl⟩:∃d:Nat,c=d:=⟨c.toNat,by omega⟩
  obtain⟨k,q1,q2⟩:=xC (a:=d) (n:=n) (by omega)
  have hw3:IntKind.i64.wrap (d:Int)=d:=ag (by omega) (by omega)
  simp-implicitDefEqProofs[e1,hw3,hn0,q1]
  exact⟨k,rfl,.inl q2⟩
 ·simp at h1
  obtain⟨c1,e1,e2,e3⟩:=at_ p
  obtain⟨c2,f1,f2,f3⟩:=at_ (p*7+3)
  have hq:p/b.length≤p:=Nat.div_le_self _ _
  have ht1:(p:Int).tmod (b.length:Int)=((p%b.length:Nat):Int):=rfl
  have ht2:((p:Int)*7+3).tmod (b.length:Int)=(((p*7+3)%b.length:Nat):Int):=rfl
  have ht3:(p:Int).tdiv (b.length:Int)=((p/b.length:Nat):Int):=rfl
  generalize p/b.length=q at hq ht3
  generalize p%b.length=r1 at e1 ht1
  generalize (p*7+3)%b.length=r2 at f1 ht2
  obtain⟨x1,rfl⟩:∃d:Nat,c1=d:=⟨c1.toNat,by omega⟩
  obtain⟨x2,rfl⟩:∃d:Nat,c2=d:=⟨c2.toNat,by omega⟩
  obtain⟨m,hx⟩:=yi (a:=x1*131+x2*1117+p*29+q*53) (b:=(x1*131+x2*1117+p*29+q*53)/64) (by omega) (by omega) (by omega) (by omega)
  obtain⟨k,q1,q2⟩:=xC (a:=m) (n:=n) (by omega)
  have ht4:((x1:Int)*131+x2*1117+p*29+q*53).tdiv 64=((x1:Int)*131+x2*1117+p*29+q*53)/64:=Int.tdiv_eq_ediv_of_nonneg (by omega)
  have w1:IntKind.i64.wrap ((p:Int)*7)=(p:Int)*7:=ag (by omega) (by omega)
  have w2:IntKind.i64.wrap ((p:Int)*7+3)=(p:Int)*7+3:=ag (by omega) (by omega)
  have w3:IntKind.i64.wrap ((p:Int)*29)=(p:Int)*29:=ag (by omega) (by omega)
  have w4:IntKind.i64.wrap (x1:Int)=x1:=ag (by omega) (by omega)
  have w5:IntKind.i64.wrap (x2:Int)=x2:=ag (by omega) (by omega)
  have w6:IntKind.i64.wrap ((x1:Int)*131)=(x1:Int)*131:=ag (by omega) (by omega)
  have w7:IntKind.i64.wrap ((x2:Int)*1117)=(x2:Int)*1117:=ag (by omega) (by omega)
  have w8:IntKind.i64.wrap ((x1:Int)*131+x2*1117)=(x1:Int)*131+x2*1117:=ag (by omega) (by omega)
  have w9:IntKind.i64.wrap ((x1:Int)*131+x2*1117+p*29)=(x1:Int)*131+x2*1117+p*29:=ag (by omega) (by omega)
  have w10:IntKind.i64.wrap (q:Int)=q:=ag (by omega) (by omega)
  have w11:IntKind.i64.wrap ((q:Int)*53)=(q:Int)*53:=ag (by omega) (by omega)
  have w12:IntKind.i64.wrap ((x1:Int)*131+x2*1117+p*29+q*53)=(x1:Int)*131+x2*1117+p*29+q*53:=ag (by omega) (by omega)
  have w13:IntKind.i64.wrap (((x1:Int)*131+x2*1117+p*29+q*53)/64)=((x1:Int)*131+x2*1117+p*29+q*53)/64:=ag (by omega) (by omega)
  simp-implicitDefEqProofs[hlb,ht1,ht2,ht3,e1,f1,w1,w2,w3,w4,w5,w6,w7,w8,w9,w10,w11,w12,w13,ht4,hx,hn0,q1]
  simp-implicitDefEqProofs[] at hx
  rw[hx]
  exact⟨k,q1,.inl q2⟩
theorem aZ(b:List Int)(p n:Nat):okO n (rdO b p):=by simp[okO,rdO]
theorem aT(b:List Int)(hb:Byt b)(hl:b.length≤2000)(p:Nat)(hp:p≤1099511627776)(n:Int)(rest:List AO):AC Tryd.prog G ae [.ptr 0 2 0 0,.p (.int .i64 n)] (rdO b p::rest) fun x h=>∃k:Nat,x= .ret (.p (.int .i64 k))∧h=rdO b (p+1)::rest∧((k:Int)<n∨k=0):=by
 refine((za G b hb hl p hp n).pre rest (by simp[below]) (fun o ho=>by rw[List.mem_singleton.1 ho];exact aZ _ _ _) ?_).mono ?_
 ·rintro x h ⟨k,_,rfl,_⟩;rfl
 ·rintro x h ⟨h1,⟨k,e1,rfl,e3⟩,rfl⟩
  exact⟨k,e1,rfl,e3⟩
theorem Dj{f:FuncId}{args:List AV}{b:List Int}{p:Nat}{o:AO}{R:AV→Nat→Prop}(H:AC Tryd.prog G f (.ptr 0 2 0 0::args) [rdO b p,o] fun x h=>∃v q,x= .ret (.p v)∧h=[rdO b q,o]∧R (.p v) q)(ho:okO 0 o)
 {h:List AO}{k:Nat}{args':List AV}(hk:k≠0)(h0:h[0]?=some (rdO b p))(h1:h[k]?=some o)(hT:TW [0,k] args' args):AC Tryd.prog G f (.ptr 0 2 0 0::args') h fun x h'=>∃v q,x= .ret (.p v)∧h'=h.set 0 (rdO b q)∧R (.p v) q:=by
 have nd:[0,k].Nodup:=by simp;omega
 refine(H.frame (args:= .ptr 0 2 0 0::args') [0,k] nd (by rw[nk];exact⟨.inr ⟨by simp[below],rfl⟩,hT⟩) (bn h0 (aZ _ _ _) (bn h1 ho bm))).mono ?_
 rintro x h' ⟨x0,h2,⟨v,q,rfl,rfl,r⟩,_,rfl,rfl⟩
 refine⟨v,q,by simp[rc,ren],?_,r⟩
 have e1:∀σ,eC σ (rdO b q)=rdO b q:=fun σ=>nb (n:=0) (fun i hi=>by omega) _ (aZ _ _ _)
 have e2:∀σ,eC σ o=o:=fun σ=>nb (n:=0) (fun i hi=>by omega) _ ho
 simp only[List.take,List.length_cons,List.length_nil,List.map_cons,List.map_nil,e1,e2,mrg,List.drop,List.append_nil]
 refine List.ext_getElem? fun i=>?_
 rw[List.getElem?_set]
 split
 ·rename_i e;subst e
  rw[List.getElem?_set_ne (Ne.symm hk)]
  split
  ·exact h1.symm
  ·rename_i hl
   have:=(List.getElem?_eq_some_iff.1 h1).1
   simp at hl;omega
 ·rfl
theorem DR(b:List Int)(hb:Byt b)(hl:b.length≤2000)(p:Nat)(hp:p≤1099511627776)(l:List Int)(hne:l≠[])(hll:l.length≤1099511627776):AC Tryd.prog G aj [.ptr 0 2 0 0,.sl 1 1 0 l.length] [rdO b p,tU l] fun x h=>∃v q,x= .ret (.p v)∧h=[rdO b q,tU l]∧(∃n,v= .int .i64 n∧n∈l)∧q=p+1:=by
 refine AC.go ji ?_
 have hpos:0<l.length:=List.length_pos_iff.2 hne
 simp-implicitDefEqProofs[fy]
 refine(aT G b hb hl p hp l.length [tU l]).mono ?_
 rintro r h ⟨k,rfl,rfl,hk⟩
 have hkl:k<l.length:=by omega
 have hg:=List.getElem?_eq_getElem hkl
 have hn:tU l= .row 1 (l.map fun n=>[.p (.int .i64 n)]):=rfl
 simp-implicitDefEqProofs[aa,hkl,hn,hg]
theorem iJ{b:List Int}(hb:Byt b)(hl:b.length≤2000){p:Nat}(hp:p≤1099511627776)(l:List Int){h:List AO}{k:Nat}(hne:l≠[])(hll:l.length≤1099511627776)(hk:k≠0)(h0:h[0]?=some (rdO b p))(h1:h[k]?=some (tU l)):
 AC Tryd.prog G aj [.ptr 0 2 0 0,.sl k 1 0 l.length] h fun x h'=>∃n,n∈l∧x= .ret (.p (.int .i64 n))∧h'=h.set 0 (rdO b (p+1)):=by
 refine(Dj G (args:=[.sl 1 1 0 l.length]) (R:=fun v q=>(∃n,v= .p (.int .i64 n)∧n∈l)∧q=p+1) ((DR G b hb hl p hp l hne hll).mono ?_) (by simp[okO,tU]) (args':=[.sl k 1 0 l.length]) hk h0 h1 (by simp[below,ren])).mono ?_
 ·rintro x h ⟨v,q,e1,e2,⟨n,rfl,e3⟩,e4⟩
  exact⟨_,q,e1,e2,⟨n,rfl,e3⟩,e4⟩
 ·rintro x h' ⟨v,q,e1,e2,⟨n,e3,e4⟩,e5⟩
  cases e3;subst e5
  exact⟨n,e4,e1,e2⟩
theorem Gi(b:List Int)(hb:Byt b)(hl:b.length≤2000)(p:Nat)(hp:p≤1099511627776)(l:List (List UInt8))(hne:l≠[])(hll:l.length≤1099511627776):AC Tryd.prog G az [.ptr 0 2 0 0,.sl 1 1 0 l.length] [rdO b p,bx l] fun x h=>∃v q,x= .ret (.p v)∧h=[rdO b q,bx l]∧(∃s,v= .str s∧s∈l)∧q=p+1:=by
 refine AC.go jL ?_
 have hpos:0<l.length:=List.length_pos_iff.2 hne
 simp-implicitDefEqProofs[gw]
 refine(aT G b hb hl p hp l.length [bx l]).mono ?_
 rintro r h ⟨k,rfl,rfl,hk⟩
 have hkl:k<l.length:=by omega
 have hg:=List.getElem?_eq_getElem hkl
 have hn:bx l= .row 1 (l.map fun n=>[.p (.str n)]):=rfl
 simp-implicitDefEqProofs[aa,hkl,hn,hg]
theorem ud{b:List Int}(hb:Byt b)(hl:b.length≤2000){p:Nat}(hp:p≤1099511627776)(l:List (List UInt8)){h:List AO}{k:Nat}(hne:l≠[])(hll:l.length≤1099511627776)(hk:k≠0)(h0:h[0]?=some (rdO b p))(h1:h[k]?=some (bx l)):
 AC Tryd.prog G az [.ptr 0 2 0 0,.sl k 1 0 l.length] h fun x h'=>∃s,s∈l∧x= .ret (.p (.str s))∧h'=h.set 0 (rdO b (p+1)):=by
 refine(Dj G (args:=[.sl 1 1 0 l.length]) (R:=fun v q=>(∃n,v= .p (.str n)∧n∈l)∧q=p+1) ((Gi G b hb hl p hp l hne hll).mono ?_) (by simp[okO,bx]) (args':=[.sl k 1 0 l.length]) hk h0 h1 (by simp[below,ren])).mono ?_
 ·rintro x h ⟨v,q,e1,e2,⟨n,rfl,e3⟩,e4⟩
  exact⟨_,q,e1,e2,⟨n,rfl,e3⟩,e4⟩
 ·rintro x h' ⟨v,q,e1,e2,⟨n,e3,e4⟩,e5⟩
  cases e3;subst e5
  exact⟨n,e4,e1,e2⟩
theorem xh{b:List Int}(hb:Byt b)(hl:b.length≤2000){p:Nat}(hp:p≤1099511627776)(l:List (List UInt8))(hne:l≠[])(hll:l.length≤1099511627776)(rest:List AO):AC Tryd.prog G az [.ptr 0 2 0 0,.p (ay l)] (rdO b p::rest) fun x h=>∃s,s∈l∧x= .ret (.p (.str s))∧h=rdO b (p+1)::rest:=by
 have key:AC Tryd.prog G az [.ptr 0 2 0 0,.p (ay l)] [rdO b p] fun x h=>∃s,s∈l∧x= .ret (.p (.str s))∧h=[rdO b (p+1)]:=by
  refine AC.go jL ?_
  have hpos:0<l.length:=List.length_pos_iff.2 hne
  have hsl:ay l= .lst 1 (l.map fun w=>[.str w]):=rfl
  simp-implicitDefEqProofs[gw,hsl]
  refine(aT G b hb hl p hp l.length []).mono ?_
  rintro r h ⟨k,rfl,rfl,hk⟩
  have hkl:k<l.length:=by omega
  have hg:=List.getElem?_eq_getElem hkl
  simp-implicitDefEqProofs[aa,hg]
 refine(key.pre rest (by simp[below]) (fun o ho=>by rw[List.mem_singleton.1 ho];exact aZ _ _ _) ?_).mono ?_
 ·rintro x h ⟨k,_,_,rfl⟩;rfl
 ·rintro x h ⟨h1,⟨s,e1,e2,rfl⟩,rfl⟩
  exact⟨s,e1,e2,rfl⟩
def DP(b:List Int)(Q:AV→Nat→Prop)(x:ARes)(h:List AO):Prop:=∃v rest q v1,x= .ret v∧h=rdO b q::rest∧Fzs (.dead::rest) 1 [v] [v1]∧Q v1 q
theorem jF{f:FuncId}{args:List AV}{b:List Int}{p:Nat}{Q:AV→Nat→Prop}(H:AC Tryd.prog G f args [rdO b p] (DP b Q)):AC Tryd.prog G f args [rdO b p] fun x h=>∃v q,x= .ret v∧h=[rdO b q]∧Q v q:=by
 refine H.frz 1 (Nat.le_refl _) (fun t v h ⟨_,_,_,_,e,_⟩=>by cases e) ?_
 rintro v h ⟨v0,rest,q,v1,e,rfl,hf,r⟩
 cases e
 exact⟨v1,[rdO b q],by simp,rfl,hf,.same (aZ _ _ _) (.nil _),v1,q,rfl,rfl,r⟩
theorem gq{f:FuncId}{args:List AV}{b:List Int}{p:Nat}{Q:AV→Nat→Prop}(H:AC Tryd.prog G f args [rdO b p] fun x h=>∃v q,x= .ret v∧h=[rdO b q]∧Q v q)(rest:List AO)(ha:ah 1 args):AC Tryd.prog G f args (rdO b p::rest) fun x h=>∃v q,x= .ret v∧h=rdO b q::rest∧Q v q:=by
 refine(H.pre rest ha (fun o ho=>by rw[List.mem_singleton.1 ho];exact aZ _ _ _) ?_).mono ?_
 ·rintro x h ⟨k,_,_,rfl,_⟩;rfl
 ·rintro x h ⟨h1,⟨s,q,e1,rfl,e2⟩,rfl⟩
  exact⟨s,q,e1,rfl,e2⟩
end Go.Proofs.YtiojgfhdcpppcaaDoor
namespace Go.Proofs.YtiojgfhdcpppcaaDoor
open Go Go.Aw
set_option maxRecDepth 100000
set_option maxHeartbeats 4000000
def od(l:List (List UInt8)):Prop:=l.length≤1000000∧∀s∈l,s.length≤8
theorem de{h:List AO}{id:Nat}{l:List Ex}(e:h[id]?=some (.row 4 (l.map fun x=>x.cs.map .p))):View h (.sl id 4 0 l.length) (exL l):=by
 have:=fW (h:=h) (id:=id) (sz:=4) (n:=l.length) (ls:=l.map Ex.cs) (by rw[e];simp) (by simp) (fun x hx=>by obtain⟨b,_,rfl⟩:=List.mem_map.1 hx;exact b.cs_len)
 exact this
variable (G:aG)
def ExQ(p n m:Nat)(v:AV)(q:Nat):Prop:=(∃e:Ex,v= .agg (e.cs.map .p)∧e.sz≤n)∧p≤q∧q≤p+m
theorem qq{b:List Int}(hb:Byt b)(hl:b.length≤2000){p:Nat}(hp:p≤1000000000000)(names:List (List UInt8))(hn:od names):AC Tryd.prog G cG [.ptr 0 2 0 0,.p (ay names)] [rdO b p] fun x h=>∃v q,x= .ret v∧h=[rdO b q]∧ExQ p 9 2 v q:=by
 refine jF G (AC.go lR ?_)
 have hsl:ay names= .lst 1 (names.map fun w=>[.str w]):=rfl
 have fin1:∀(o n:Int) (s:List UInt8) (q:Nat) (rest:List AO),p≤q→q≤p+2→s.length≤8→DP b (ExQ p 9 2) (.ret (.agg [.p (.int .i64 o),.p (.int .i64 n),.p (.str s),.nils])) (rdO b q::rest):=fun o n s q rest h1 h2 hs=>
  ⟨_,rest,q,.agg ((Ex.mk o n s []).cs.map .p),rfl,rfl,.agg (.keep (by simp) (.keep (by simp) (.keep (by simp) (.one (View.nils 4) .nil)))) .nil,⟨_,rfl,by simp[Ex.sz,aP];omega⟩,h1,h2⟩
 have num:∀(q:Nat) (h:List AO),q≤1000000000001→h[0]?=some (rdO b q)→h[2]?=some (tU [0,1,2,3,5,7,15,16,100,255])→_:=fun q h hq h0 h1=>iJ G hb hl (p:=q) (by omega) [0,1,2,3,5,7,15,16,100,255] (h:=h) (k:=2) (by simp) (by simp) (by omega) h0 h1
 by_cases hne:names=[]
 ·subst hne
  have hs0:ay []= .lst 1 []:=rfl
  simp-implicitDefEqProofs[eb,hs0]
  refine(num p _ (by omega) rfl rfl).mono ?_
  rintro r h ⟨n,_,rfl,rfl⟩
  simp-implicitDefEqProofs[aa]
  exact fin1 _ _ _ _ _ (by omega) (by omega) (by simp)
 ·have hlen:¬names.length=0:=fun h=>hne (List.eq_nil_of_length_eq_zero h)
  simp-implicitDefEqProofs[eb,hsl,hne]
  refine(aT G b hb hl p (by omega) 3 _).mono ?_
  rintro r h ⟨k,rfl,rfl,_⟩
  simp-implicitDefEqProofs[aa]
  refine bc (fun hc=>?_) (fun hc=>?_)
  ·simp-implicitDefEqProofs[]
   refine(num (p+1) _ (by omega) rfl rfl).mono ?_
   rintro r h ⟨n,_,rfl,rfl⟩
   simp-implicitDefEqProofs[aa]
   exact fin1 _ _ _ _ _ (by omega) (by omega) (by simp)
  ·simp-implicitDefEqProofs[]
   rw[←hsl]
   refine(xh G hb hl (by omega) names hne (by have:=hn.1;omega) _).mono ?_
   rintro r h ⟨s,hs,rfl,rfl⟩
   have:=hn.2 s hs
   simp-implicitDefEqProofs[aa]
   exact fin1 _ _ _ _ _ (by omega) (by omega) this
theorem qT{b:List Int}(hb:Byt b)(hl:b.length≤2000)(names:List (List UInt8))(hn:od names):∀(d:Nat),d≤20→∀{p:Nat},p+6*3^d≤1000000000000→AC Tryd.prog G aQ [.ptr 0 2 0 0,.p (ay names),.p (.int .i64 d)] [rdO b p] fun x h=>∃v q,x= .ret v∧h=[rdO b q]∧ExQ p (10*3^d) (6*3^d) v q:=by
 intro d
 induction d with
 |zero=>
  intro _ p hp
  refine jF G (AC.go iQ ?_)
  simp-implicitDefEqProofs[dj]
  refine(gq G (qq G hb hl (by omega) names hn) _ (by simp[below])).mono ?_
  rintro r h ⟨v,q,rfl,rfl,⟨e,rfl,he⟩,h1,h2⟩
  have hec:=e.cs_eq
  simp-implicitDefEqProofs[aa,hec]
  exact⟨_,_,q,.agg (e.cs.map .p),rfl,rfl,.agg (by rw[hec];exact fc (by simp)) .nil,⟨e,rfl,by omega⟩,h1,by omega⟩
 |succ d ih=>
  intro hd p hp
  have hpow:3^(d+1)=3*3^d:=by rw[Nat.pow_succ];omega
  have h1p:1≤3^d:=Nat.one_le_pow _ _ (by omega)
  have ih:=fun{p:Nat} (hp:p+6*3^d≤1000000000000)=>ih (by omega) (p:=p) hp
  rw[hpow] at hp⊢
  generalize 3^d=t at*
  have hw:IntKind.i64.wrap (d:Int)=(d:Int):=ag (by omega) (by omega)
  have leaf:∀(q:Nat) (rest:List AO),p≤q→q≤p+3→AC Tryd.prog G cG [.ptr 0 2 0 0,.p (ay names)] (rdO b q::rest) fun x h=>∃v q',x= .ret v∧h=rdO b q'::rest∧ExQ q 9 2 v q':=fun q rest _ _=>gq G (qq G hb hl (by omega) names hn) rest (by simp[below])
  have sub:∀(q:Nat) (rest:List AO),p≤q→q≤p+6+6*t→AC Tryd.prog G aQ [.ptr 0 2 0 0,.p (ay names),.p (.int .i64 d)] (rdO b q::rest) fun x h=>∃v q',x= .ret v∧h=rdO b q'::rest∧ExQ q (10*t) (6*t) v q':=fun q rest _ _=>gq G (ih (by omega)) rest (by simp[below])
  refine jF G (AC.go iQ ?_)
  have leafCase:∀(e:Ex) (q:Nat) (rest:List AO),e.sz≤9→p≤q→q≤p+5→DP b (ExQ p (10*(3*t)) (6*(3*t))) (.ret (.agg (e.cs.map .p))) (rdO b q::rest):=fun e q rest h1 h2 h3=>
   ⟨_,_,q,.agg (e.cs.map .p),rfl,rfl,.agg (by rw[e.cs_eq];exact fc (by simp)) .nil,⟨e,rfl,by omega⟩,h2,by omega⟩
  have bin:∀(o:Int) (e1 e2:Ex) (q:Nat) (rest:List AO) (k:Nat),(rdO b q::rest)[k+1]?=some (.row 4 [e1.cs.map .p,e2.cs.map .p])→e1.sz≤10*t→e2.sz≤10*t→p≤q→q≤p+6*(3*t)→DP b (ExQ p (10*(3*t)) (6*(3*t))) (.ret (.agg [.p (.int .i64 o),.p (.int .i64 0),.p (.str []),.sl (k+1) 4 0 2])) (rdO b q::rest):=fun o e1 e2 q rest k hk h1 h2 h3 h4=>
   ⟨_,rest,q,.agg ((Ex.mk o 0 [] [e1,e2]).cs.map .p),rfl,rfl,.agg (.keep (by simp) (.keep (by simp) (.keep (by simp) (.one (de (l:=[e1,e2]) (by simpa using hk)) .nil)))) .nil,⟨_,rfl,by simp[Ex.sz,aP];omega⟩,h3,h4⟩
  have una:∀(o:Int) (e1:Ex) (q:Nat) (rest:List AO) (k:Nat),(rdO b q::rest)[k+1]?=some (.row 4 [e1.cs.map .p])→e1.sz≤10*t→p≤q→q≤p+6*(3*t)→DP b (ExQ p (10*(3*t)) (6*(3*t))) (.ret (.agg [.p (.int .i64 o),.p (.int .i64 0),.p (.str []),.sl (k+1) 4 0 1])) (rdO b q::rest):=fun o e1 q rest k hk h1 h3 h4=>
   ⟨_,rest,q,.agg ((Ex.mk o 0 [] [e1]).cs.map .p),rfl,rfl,.agg (.keep (by simp) (.keep (by simp) (.keep (by simp) (.one (de (l:=[e1]) (by simpa using hk)) .nil)))) .nil,⟨_,rfl,by simp[Ex.sz,aP];omega⟩,h3,h4⟩
  by_cases hd0:d=0
  ·subst hd0
   simp-implicitDefEqProofs[dj]
   refine(leaf p _ (by omega) (by omega)).mono ?_
   rintro r h ⟨v,q,rfl,rfl,⟨e,rfl,he⟩,h1,h2⟩
   have hec:=e.cs_eq
   simp-implicitDefEqProofs[aa,hec]
   have:=leafCase e q [.row 4 [e.cs.map .p]] he h1 (by omega)
   rw[hec] at this
   exact this
  have hd2:¬(d:Int)+1<2:=by omega
  simp-implicitDefEqProofs[dj,hd2]
  refine(aT G b hb hl p (by omega) 4 _).mono ?_
  rintro r h ⟨k1,rfl,rfl,_⟩
  simp-implicitDefEqProofs[aa]
  refine bc (fun hc=>?_) (fun hc=>?_)
  ·simp-implicitDefEqProofs[]
   refine(leaf (p+1) _ (by omega) (by omega)).mono ?_
   rintro r h ⟨v,q,rfl,rfl,⟨e,rfl,he⟩,h1,h2⟩
   have hec:=e.cs_eq
   simp-implicitDefEqProofs[aa,hec]
   have:=leafCase e q [.row 4 [e.cs.map .p]] he (by omega) (by omega)
   rw[hec] at this
   exact this
  simp-implicitDefEqProofs[]
  refine(aT G b hb hl (p+1) (by omega) 7 _).mono ?_
  rintro r h ⟨k2,rfl,rfl,_⟩
  simp-implicitDefEqProofs[aa]
  refine bc (fun hc=>?_) (fun hc=>?_)
  ·simp-implicitDefEqProofs[]
   refine(iJ G hb hl (p:=p+2) (by omega) [11,12,11] (k:=2) (by simp) (by simp) (by omega) rfl rfl).mono ?_
   rintro r h ⟨n,_,rfl,rfl⟩
   simp-implicitDefEqProofs[aa,hw]
   refine(sub (p+3) _ (by omega) (by omega)).mono ?_
   rintro r h ⟨v,q,rfl,rfl,⟨e,rfl,he⟩,h1,h2⟩
   have hec:=e.cs_eq
   simp-implicitDefEqProofs[aa,hec]
   exact una n e q _ 2 (by rw[hec];rfl) he (by omega) (by omega)
  ·simp-implicitDefEqProofs[]
   refine(iJ G hb hl (p:=p+2) (by omega) [3,3,4,5,6,7,8,9,10] (k:=2) (by simp) (by simp) (by omega) rfl rfl).mono ?_
   rintro r h ⟨n,_,rfl,rfl⟩
   simp-implicitDefEqProofs[aa,hw]
   refine(sub (p+3) _ (by omega) (by omega)).mono ?_
   rintro r h ⟨v,q,rfl,rfl,⟨e,rfl,he⟩,h1,h2⟩
   have hec:=e.cs_eq
   simp-implicitDefEqProofs[aa,hec,hw]
   refine(sub q _ (by omega) (by omega)).mono ?_
   rintro r h ⟨v,q2,rfl,rfl,⟨e2,rfl,he2⟩,h3,h4⟩
   have hec2:=e2.cs_eq
   simp-implicitDefEqProofs[aa,hec2]
   exact bin n e e2 q2 _ 2 (by rw[hec,hec2];rfl) he he2 (by omega) (by omega)
end Go.Proofs.YtiojgfhdcpppcaaDoor
namespace Go.Proofs.YtiojgfhdcpppcaaDoor
open Go Go.Aw
set_option maxRecDepth 100000
set_option maxHeartbeats 4000000
def bP(fns:List Fd)(vs:List (List UInt8))(next left:Int):List AV:=[.ptr 0 2 0 0,slE 2 3 (aS fns),.p (ay vs),.p (.int .i64 next),.p (.int .i64 left)]
def HG(b:List Int)(p:Nat)(fns:List Fd)(vs:List (List UInt8))(next left:Int):List AO:=[rdO b p,.row 5 [bP fns vs next left],bF 3 (aS fns)]
def DG(b:List Int)(fns:List Fd)(Q:AV→Nat→List (List UInt8)→Int→Int→Prop)(x:ARes)(h:List AO):Prop:=
 ∃v rest q vc v1 vs next left,x= .ret v∧h=rdO b q:: .row 5 [[.ptr 0 2 0 0,slE 2 3 (aS fns),vc,.p (.int .i64 next),.p (.int .i64 left)]]::bF 3 (aS fns)::rest∧
  Fzs (.dead:: .dead:: .dead::rest) 3 [vc] [.p (ay vs)]∧Fzs (.dead:: .dead:: .dead::rest) 3 [v] [v1]∧Q v1 q vs next left
def PG(b:List Int)(fns:List Fd)(Q:AV→Nat→List (List UInt8)→Int→Int→Prop)(rest:List AO)(x:ARes)(h:List AO):Prop:=
 ∃v q vs next left,x= .ret v∧h=rdO b q:: .row 5 [bP fns vs next left]::bF 3 (aS fns)::rest∧Q v q vs next left
variable (G:aG)
theorem iI{f:FuncId}{args:List AV}{b:List Int}{p:Nat}{fns:List Fd}{vs:List (List UInt8)}{next left:Int}{Q:AV→Nat→List (List UInt8)→Int→Int→Prop}(H:AC Tryd.prog G f args (HG b p fns vs next left) (DG b fns Q)):
 AC Tryd.prog G f args (HG b p fns vs next left) (PG b fns Q []):=by
 refine H.frz 3 (by simp[HG]) (fun t v h ⟨_,_,_,_,_,_,_,_,e,_⟩=>by cases e) ?_
 rintro v h ⟨v0,rest,q,vc,v1,vs',n',l',e,rfl,hc,hf,r⟩
 cases e
 refine⟨v1,HG b q fns vs' n' l',by simp,rfl,hf,.same (aZ _ _ _) (.one ?_ (.same (iD _ _) (.nil _))),v1,q,vs',n',l',rfl,rfl,r⟩
 exact .keep (by simp[below]) (.keep (kX (by omega)) (hc.append (.keep (by simp) (.keep (by simp) .nil))))
theorem zB(b:List Int)(p:Nat)(fns:List Fd)(vs:List (List UInt8))(next left:Int):∀o∈HG b p fns vs next left,okO 3 o:=by
 intro o ho
 simp only[HG,List.mem_cons,List.not_mem_nil,or_false] at ho
 rcases ho with rfl|rfl|rfl
 ·exact aZ _ _ _
 ·intro e he
  rw[List.mem_singleton.1 he]
  exact⟨by simp[below],kX (by omega),by simp,by simp,by simp,trivial⟩
 ·exact iD _ _
theorem ct{f:FuncId}{args:List AV}{b:List Int}{p:Nat}{fns:List Fd}{vs:List (List UInt8)}{next left:Int}{Q:AV→Nat→List (List UInt8)→Int→Int→Prop}(H:AC Tryd.prog G f args (HG b p fns vs next left) (PG b fns Q []))(rest:List AO)(ha:ah 3 args):
 AC Tryd.prog G f args (rdO b p:: .row 5 [bP fns vs next left]::bF 3 (aS fns)::rest) (PG b fns Q rest):=by
 refine(AC.pre H rest ha (zB _ _ _ _ _ _) ?_).mono ?_
 ·rintro x h ⟨v,q,vs',n',l',_,rfl,_⟩;rfl
 ·rintro x h ⟨h1,⟨v,q,vs',n',l',e1,rfl,e2⟩,rfl⟩
  exact⟨v,q,vs',n',l',e1,rfl,e2⟩
def FI(p:Nat)(vs:List (List UInt8))(next left:Int)(v:AV)(q:Nat)(vs':List (List UInt8))(next' left':Int):Prop:=(∃s:List UInt8,v= .p (.str s)∧s.length≤8)∧p≤q∧q≤p+2∧vs'=vs∧next'=next+1∧left'=left
theorem xw{b:List Int}(hb:Byt b)(hl:b.length≤2000){p:Nat}(hp:p+2≤1000000000000)(fns:List Fd)(vs:List (List UInt8))(hv:od vs){next:Int}(hn: -1≤next)(hn2:next≤1000000000000)(left:Int):
 AC Tryd.prog G eE [.ptr 1 5 0 0] (HG b p fns vs next left) (PG b fns (FI p vs next left) []):=by
 refine iI G (AC.go mj ?_)
 have hw:IntKind.i64.wrap (next+1)=next+1:=ag (by omega) (by omega)
 have hsl:ay vs= .lst 1 (vs.map fun w=>[.str w]):=rfl
 simp-implicitDefEqProofs[gW,HG,bP,hw]
 refine(aT G b hb hl p (by omega) 9 _).mono ?_
 rintro r h ⟨k,rfl,rfl,_⟩
 have fin:∀(s:List UInt8) (q:Nat),s.length≤8→p≤q→q≤p+2→DG b fns (FI p vs next left) (.ret (.p (.str s))) [rdO b q,.row 5 [[.ptr 0 2 0 0,slE 2 3 (aS fns),.p (ay vs),.p (.int .i64 (next+1)),.p (.int .i64 left)]],bF 3 (aS fns)]:=fun s q h1 h2 h3=>
  ⟨_,[],q,_,_,vs,next+1,left,rfl,rfl,.keep (by simp) .nil,.keep (by simp) .nil,⟨s,rfl,h1⟩,h2,h3,rfl,rfl,rfl⟩
 obtain⟨N,hN⟩:∃N:Nat,next+1=N:=⟨(next+1).toNat,by omega⟩
 have hm:N%24<24:=Nat.mod_lt _ (by omega)
 have ht:(N:Int).tmod 24=((N%24:Nat):Int):=rfl
 have hw2:IntKind.i64.wrap (((N%24:Nat):Int)+1)=((N%24+1:Nat):Int):=w1 (by omega)
 rw[hN] at fin⊢
 generalize N%24=m at hm ht hw2
 have hm1:m+1≤24:=by omega
 have h0m:(0:Int)≤(m:Int)+1:=by omega
 by_cases hc:k=0∧vs≠[]
 ·obtain⟨rfl,hne⟩:=hc
  have hpos:0<vs.length:=List.length_pos_iff.2 hne
  simp-implicitDefEqProofs[aa,hsl,hpos]
  rw[←hsl]
  refine(xh G hb hl (by omega) vs hne (by have:=hv.1;omega) _).mono ?_
  rintro r h ⟨s,hs,rfl,rfl⟩
  simp-implicitDefEqProofs[aa]
  exact fin s _ (hv.2 s hs) (by omega) (by omega)
 ·have hcc:(k=0∧0<vs.length)=False:=by
   simp only[eq_iff_iff,iff_false]
   exact fun⟨a,c⟩=>hc ⟨a,List.length_pos_iff.1 c⟩
  by_cases hk:k=0
  ·have hv0:vs=[]:=by
    by_cases e:vs=[]
    ·exact e
    ·exact absurd ⟨hk,e⟩ hc
   subst hv0
   have hs0:ay []= .lst 1 []:=rfl
   simp-implicitDefEqProofs[aa,hs0,hk,ht,hw2,hm1,h0m]
   rw[←hs0]
   refine fin _ (p+1) ?_ (by omega) (by omega)
   simp
   omega
  ·simp-implicitDefEqProofs[aa,hk,ht,hw2,hm1,h0m]
   refine fin _ (p+1) ?_ (by omega) (by omega)
   simp
   omega
def qD(fns:List Fd):Prop:=fns.length≤1000∧∀f∈fns,f.name.length≤8∧f.params.length≤3
def Gh(p:Nat)(vs:List (List UInt8))(next left:Int)(v:AV)(q:Nat)(vs':List (List UInt8))(next' left':Int):Prop:=(∃e:Ex,v= .agg (e.cs.map .p)∧e.sz≤400)∧p≤q∧q≤p+400∧vs'=vs∧next'=next∧left'=left
theorem tG{b:List Int}(hb:Byt b)(hl:b.length≤2000){p:Nat}(hp:p≤1000000000000)(l:List Int)(hne:l≠[])(hll:l.length≤1000000000000)(rest:List AO):
 AC Tryd.prog G aj [.ptr 0 2 0 0,.p (BG l)] (rdO b p::rest) fun x h=>∃n,n∈l∧x= .ret (.p (.int .i64 n))∧h=rdO b (p+1)::rest:=by
 have key:AC Tryd.prog G aj [.ptr 0 2 0 0,.p (BG l)] [rdO b p] fun x h=>∃n,n∈l∧x= .ret (.p (.int .i64 n))∧h=[rdO b (p+1)]:=by
  refine AC.go ji ?_
  have hpos:0<l.length:=List.length_pos_iff.2 hne
  have hnl:BG l= .lst 1 (l.map fun n=>[.int .i64 n]):=rfl
  simp-implicitDefEqProofs[fy,hnl]
  refine(aT G b hb hl p (by omega) l.length []).mono ?_
  rintro r h ⟨m,rfl,rfl,hm⟩
  have hml:m<l.length:=by omega
  have hg:=List.getElem?_eq_getElem hml
  simp-implicitDefEqProofs[aa,hg]
 refine(key.pre rest (by simp[below]) (fun o ho=>by rw[List.mem_singleton.1 ho];exact aZ _ _ _) ?_).mono ?_
 ·rintro x h ⟨n,_,_,rfl⟩;rfl
 ·rintro x h ⟨h1,⟨n,e1,e2,rfl⟩,rfl⟩
  exact⟨n,e1,e2,rfl⟩
structure ExS where (es:List Ex) (q:Nat)
theorem jb{b:List Int}(hb:Byt b)(hl:b.length≤2000){p:Nat}(hp:p+1000≤1000000000000)(fns:List Fd)(hf:qD fns)(vs:List (List UInt8))(hv:od vs)(next left:Int){d:Nat}(hd:d≤3):
 AC Tryd.prog G aL [.ptr 1 5 0 0,.p (.int .i64 d)] (HG b p fns vs next left) (PG b fns (Gh p vs next left) []):=by
 refine iI G (AC.go mF ?_)
 have hpow:3^d≤27:=by
  have:3^d≤3^3:=Nat.pow_le_pow_right (by omega) hd
  omega
 have sub:∀(k:Nat),k≤3→∀(q:Nat) (rest:List AO),p≤q→q≤p+700→AC Tryd.prog G aQ [.ptr 0 2 0 0,.p (ay vs),.p (.int .i64 k)] (rdO b q::rest) fun x h=>∃v q',x= .ret v∧h=rdO b q'::rest∧ExQ q (10*3^k) (6*3^k) v q':=fun k hk q rest _ _=>by
  have:3^k≤3^3:=Nat.pow_le_pow_right (by omega) hk
  exact gq G (qT G hb hl vs hv k (by omega) (by omega)) rest (by simp[below])
 simp-implicitDefEqProofs[iM,HG,bP]
 refine(sub d hd p _ (by omega) (by omega)).mono ?_
 rintro r h ⟨v,q0,rfl,rfl,⟨e0,rfl,he0⟩,hq1,hq2⟩
 have hec:=e0.cs_eq
 simp-implicitDefEqProofs[aa,hec]
 have finE:∀(e:Ex) (q:Nat) (rest:List AO) (v:AV),Fzs (.dead:: .dead:: .dead::rest) 3 [v] [.agg (e.cs.map .p)]→e.sz≤400→p≤q→q≤p+400→DG b fns (Gh p vs next left) (.ret v) (rdO b q:: .row 5 [[.ptr 0 2 0 0,slE 2 3 (aS fns),.p (ay vs),.p (.int .i64 next),.p (.int .i64 left)]]::bF 3 (aS fns)::rest):=fun e q rest v hz h1 h2 h3=>
  ⟨_,rest,q,_,_,vs,next,left,rfl,rfl,.keep (by simp) .nil,hz,⟨e,rfl,h1⟩,h2,h3,rfl,rfl,rfl⟩
 have fz0:∀rest,Fzs (.dead:: .dead:: .dead::rest) 3 [.agg [.p (.int .i64 e0.op),.p (.int .i64 e0.n),.p (.str e0.name),.p (exL e0.kids)]] [.agg (e0.cs.map .p)]:=fun rest=> .agg (by rw[hec];exact fc (by simp)) .nil
 by_cases hfe:fns=[]
 ·have h0:aS fns=[]:=by rw[hfe];rfl
  simp-implicitDefEqProofs[h0]
  rw[←h0]
  have:=finE e0 q0 [.row 4 [[.p (.int .i64 e0.op),.p (.int .i64 e0.n),.p (.str e0.name),.p (exL e0.kids)]],.row 4 [[.p (.int .i64 e0.op),.p (.int .i64 e0.n),.p (.str e0.name),.p (exL e0.kids)]]] _ (fz0 _) (by omega) (by omega) (by omega)
  rw[h0] at this⊢
  exact this
 have hfr:¬aS fns=[]:=fun h=>hfe (List.map_eq_nil_iff.1 h)
 have hfl:(aS fns).length=fns.length:=by simp[aS]
 have hfp:0<fns.length:=List.length_pos_iff.2 hfe
 simp only[dI hfr,cS hfr,hfl] at finE
 rw[show bF 3 (aS fns)= .row 3 (aS fns) from dI hfr,show slE 2 3 (aS fns)= .sl 2 3 0 (aS fns).length from cS hfr,hfl]
 generalize hR:aS fns=R at*
 simp-implicitDefEqProofs[hfr]
 refine(aT G b hb hl q0 (by omega) 4 _).mono ?_
 rintro r h ⟨k1,rfl,rfl,_⟩
 simp-implicitDefEqProofs[aa]
 refine bc (fun hc=>?_) (fun hc=>?_)
 ·simp-implicitDefEqProofs[]
  exact finE e0 _ _ _ (fz0 _) (by omega) (by omega) (by omega)
 simp-implicitDefEqProofs[hfl]
 refine(aT G b hb hl (q0+1) (by omega) fns.length _).mono ?_
 rintro r h ⟨k2,rfl,rfl,hk2⟩
 have hk:k2<fns.length:=by omega
 have hg:=List.getElem?_eq_getElem hk
 have hgr:R[k2]?=some (fns[k2].cs.map .p):=by rw[←hR,aS,List.getElem?_map,hg];rfl
 have hfo:=hf.2 _ (List.getElem_mem hk)
 generalize fns[k2]=fd at hg hgr hfo
 have hfc:fd.cs=[.str fd.name,ay fd.params,smL fd.body]:=rfl
 have hsp:ay fd.params= .lst 1 (fd.params.map fun w=>[.str w]):=rfl
 clear hfl hg
 simp-implicitDefEqProofs[aa,hgr,hk,hfc]
 have hexn:∀(es:List Ex) (e:Ex),exR (es++[e])=exR es++[e.cs.map .p]:=fun es e=>by simp[exR]
 have hRp:∀x∈R,ah 0 x:=by rw[←hR];exact ow fns
 refine aR (fun s:ExS=>am 99 [(8,.p (.int .i64 s.es.length)),(7,.ptr 6 4 0 0),(6,.ptr 5 3 0 0),(4,.ptr 3 4 0 0),(0,.ptr 1 5 0 0)])
  (fun s=>[rdO b s.q,.row 5 [[.ptr 0 2 0 0,.sl 2 3 0 fns.length,.p (ay vs),.p (.int .i64 next),.p (.int .i64 left)]],.row 3 R,.row 4 [[.p (.int .i64 0),.p (.int .i64 0),.p (.str []),.nils]],
    .row 4 [[.p (.int .i64 e0.op),.p (.int .i64 e0.n),.p (.str e0.name),.p (exL e0.kids)]],.row 3 [[.p (.str fd.name),.p (ay fd.params),.p (smL fd.body)]],.row 4 [[.p (.int .i64 13),.p (.int .i64 0),.p (.str fd.name),slE 7 4 (exR s.es)]],bF 4 (exR s.es)])
  (fun s=>s.es.length≤fd.params.length∧aP s.es≤90*s.es.length∧q0≤s.q∧s.q≤q0+2+54*s.es.length) (fun s=>fd.params.length-s.es.length) ⟨[],q0+1+1⟩ ⟨by simp,by simp[aP],by simp only;omega,by simp⟩
  (mY (by simp) (by simp) (by
    intro o h
    simp only[List.mem_cons,List.not_mem_nil,or_false] at h
    rcases h with rfl|rfl|rfl|rfl|rfl|rfl|rfl
    ·exact aZ _ _ _
    ·simp[okO,below]
    ·exact bU (fun e he=>hRp e he)
    ·simp[okO,below]
    ·simp[okO,below]
    ·simp[okO,below]
    ·simp[okO,below]) (by simp[below])) ?_
 rintro⟨es,q⟩ ⟨h1,h2,h3,h4⟩
 simp only at h1 h2 h3 h4
 simp-implicitDefEqProofs[hsp]
 refine bc (fun hc=>?_) (fun hc=>?_)
 ·simp at hc
  have hp3:=hfo.2
  simp-implicitDefEqProofs[]
  refine(sub 2 (by omega) q _ (by omega) (by omega)).mono ?_
  rintro r h ⟨v,q2,rfl,rfl,⟨e,rfl,he⟩,hq3,hq4⟩
  have hec:=e.cs_eq
  simp-implicitDefEqProofs[aa,hec]
  have hxl:(exR es).length=es.length:=by simp[exR]
  refine⟨by rw[hxl];omega,⟨es++[e],q2⟩,⟨by simp;omega,by rw[cA];simp[aP];omega,by simp only;omega,by simp;omega⟩,by simp;omega,?_⟩
  rw[hexn,xn _ (by simp),vC _ (by simp),hec]
  refine cJ [0,1,2,3,4,5,6,8] (by simp) (by decide) (by decide) (bn rfl (aZ _ _ _) (cC (by simp[below]) (by simp[ren,aX]) (be rfl hRp (be rfl (by simp[below]) (be rfl (by simp[below]) (be rfl (by simp[below]) (cC (by simp[below]) (by simp[ren,aX]) (be rfl (fun x hx=>by
   rcases List.mem_append.1 hx with h|h
   ·exact cX _ x h
   ·rw[List.mem_singleton.1 h];simp) bm)))))))) ?_
  simp[below,ren,w1 (i:=es.length) (by omega)]
 ·simp at hc
  have hp3:=hfo.2
  have hlen:es.length=fd.params.length:=by omega
  have hxl:(exR es).length=es.length:=by simp[exR]
  have hkids:∀(h:List AO),h[7]?=some (bF 4 (exR es))→View h (slE 7 4 (exR es)) (exL es):=fun h hh=>ff hh
  simp-implicitDefEqProofs[]
  refine(aT G b hb hl q (by omega) 2 _).mono ?_
  rintro r h ⟨k3,rfl,rfl,_⟩
  simp-implicitDefEqProofs[aa]
  refine bc (fun hc2=>?_) (fun hc2=>?_)
  ·simp-implicitDefEqProofs[]
   have hcc:(Ex.mk 13 0 fd.name es).cs=[.int .i64 13,.int .i64 0,.str fd.name,exL es]:=Ex.cs_eq _
   exact finE ⟨13,0,fd.name,es⟩ (q+1) _ _ (.agg (by rw[hcc];exact .keep (by simp) (.keep (by simp) (.keep (by simp) (.one (hkids _ rfl) .nil)))) .nil) (by simp[Ex.sz];omega) (by omega) (by omega)
  ·simp-implicitDefEqProofs[]
   refine(tG G hb hl (p:=q+1) (by omega) [3,4,8,10] (by simp) (by simp) _).mono ?_
   rintro r h ⟨n,_,rfl,rfl⟩
   simp-implicitDefEqProofs[aa]
   refine(sub 2 (by omega) (q+1+1) _ (by omega) (by omega)).mono ?_
   rintro r h ⟨v,q2,rfl,rfl,⟨e,rfl,he⟩,hq3,hq4⟩
   have hec:=e.cs_eq
   simp-implicitDefEqProofs[aa,hec]
   have hcc:(Ex.mk 13 0 fd.name es).cs=[.int .i64 13,.int .i64 0,.str fd.name,exL es]:=Ex.cs_eq _
   exact finE ⟨n,0,[],[⟨13,0,fd.name,es⟩,e]⟩ q2 _ _ (.agg (.keep (by simp) (.keep (by simp) (.keep (by simp) (.one (mS (p0:=(Ex.mk 13 0 fd.name es).cs) (p1:=e.cs) rfl (Ex.cs_len _) (Ex.cs_len _) (fun j q a e1 e2=>by
    rw[hcc] at e1
    match j,e1,e2 with
    |0,e1,e2=>cases e1;cases e2;exact .p _
    |1,e1,e2=>cases e1;cases e2;exact .p _
    |2,e1,e2=>cases e1;cases e2;exact .p _
    |3,e1,e2=>cases e1;cases e2;exact hkids _ rfl
    |j+4,e1,e2=>simp at e1) (fun j q a e1 e2=>by
    rw[hec] at e1
    match j,e1,e2 with
    |0,e1,e2=>cases e1;cases e2;exact .p _
    |1,e1,e2=>cases e1;cases e2;exact .p _
    |2,e1,e2=>cases e1;cases e2;exact .p _
    |3,e1,e2=>cases e1;cases e2;exact .p _
    |j+4,e1,e2=>simp at e1)) .nil)))) .nil) (by simp[Ex.sz,aP];omega) (by omega) (by omega)
end Go.Proofs.YtiojgfhdcpppcaaDoor
namespace Go.Proofs.YtiojgfhdcpppcaaDoor
open Go Go.Aw
set_option maxRecDepth 100000
set_option maxHeartbeats 4000000
variable (G:aG)
def He(p:Nat)(vs:List (List UInt8))(next left:Int)(v:AV)(q:Nat)(vs':List (List UInt8))(next' left':Int):Prop:=(∃e:Ex,v= .agg (e.cs.map .p)∧e.sz≤410)∧p≤q∧q≤p+401∧vs'=vs∧next'=next∧left'=left
theorem Ba{b:List Int}(hb:Byt b)(hl:b.length≤2000){p:Nat}(hp:p+2000≤1000000000000)(fns:List Fd)(hf:qD fns)(vs:List (List UInt8))(hv:od vs)(next left:Int):
 AC Tryd.prog G du [.ptr 1 5 0 0] (HG b p fns vs next left) (PG b fns (He p vs next left) []):=by
 refine iI G (AC.go mI ?_)
 simp-implicitDefEqProofs[iz,HG,bP]
 refine(ct G (jb G hb hl (p:=p) (by omega) fns hf vs hv next left (d:=2) (by omega)) _ (by simp[below])).mono ?_
 rintro r h ⟨v,q,vs',n',l',rfl,rfl,⟨e,rfl,he⟩,h1,h2,rfl,rfl,rfl⟩
 have hec:=e.cs_eq
 simp-implicitDefEqProofs[aa,bP,hec]
 refine(tG G hb hl (p:=q) (by omega) [16,16,16,8,17,0] (by simp) (by simp) _).mono ?_
 rintro r h ⟨n,_,rfl,rfl⟩
 simp-implicitDefEqProofs[aa]
 have hn:(Ex.mk 1 n [] []).cs=[.int .i64 1,.int .i64 n,.str [],.lst 4 []]:=Ex.cs_eq _
 refine⟨_,[_,_],q+1,_,.agg ((Ex.mk 7 0 [] [e,⟨1,n,[],[]⟩]).cs.map .p),vs',n',l',rfl,rfl,.keep (by simp) .nil,.agg (.keep (by simp) (.keep (by simp) (.keep (by simp) (.one (mS (p0:=e.cs) (p1:=(Ex.mk 1 n [] []).cs) rfl (Ex.cs_len _) (Ex.cs_len _) (fun j q a e1 e2=>?_) (fun j q a e1 e2=>?_)) .nil)))) .nil,⟨_,rfl,by simp[Ex.sz,aP];omega⟩,by omega,by omega,rfl,rfl,rfl⟩
 ·rw[hec] at e1
  match j,e1,e2 with
  |0,e1,e2=>cases e1;cases e2;exact .p _
  |1,e1,e2=>cases e1;cases e2;exact .p _
  |2,e1,e2=>cases e1;cases e2;exact .p _
  |3,e1,e2=>cases e1;cases e2;exact .p _
  |j+4,e1,e2=>simp at e1
 ·rw[hn] at e1
  match j,e1,e2 with
  |0,e1,e2=>cases e1;cases e2;exact .p _
  |1,e1,e2=>cases e1;cases e2;exact .p _
  |2,e1,e2=>cases e1;cases e2;exact .p _
  |3,e1,e2=>cases e1;cases e2;exact View.nils 4
  |j+4,e1,e2=>simp at e1
def Ge(p:Nat)(e:Ex)(vs:List (List UInt8))(next left:Int)(v:AV)(q:Nat)(vs':List (List UInt8))(next' left':Int):Prop:=
 ∃s:List UInt8,s.length≤8∧v= .agg ((Sm.mk 1 s [e] [] []).cs.map .p)∧p≤q∧q≤p+2∧vs'=vs++[s]∧next'=next+1∧left'=left
theorem Db{b:List Int}(hb:Byt b)(hl:b.length≤2000){p:Nat}(hp:p+2≤1000000000000)(fns:List Fd)(vs:List (List UInt8))(hv:od vs){next:Int}(hn: -1≤next)(hn2:next≤1000000000000)(left:Int)(e:Ex):
 AC Tryd.prog G ca [.ptr 1 5 0 0,.agg (e.cs.map .p)] (HG b p fns vs next left) (PG b fns (Ge p e vs next left) []):=by
 refine iI G (AC.go jt ?_)
 have hec:=e.cs_eq
 simp-implicitDefEqProofs[fG,HG,bP,hec]
 refine(ct G (xw G hb hl hp fns vs hv hn hn2 left) _ (by simp[below])).mono ?_
 rintro r h ⟨v,q,vs',n',l',rfl,rfl,⟨s,rfl,hs⟩,h1,h2,rfl,rfl,rfl⟩
 have hsl:ay vs'= .lst 1 (vs'.map fun w=>[.str w]):=rfl
 simp-implicitDefEqProofs[aa,bP,hsl]
 have hv1:=hv.1
 have hrow:List.take vs'.length (List.map ((fun x=>List.map AV.p x)∘fun w=>[PV.str w]) vs')++[[AV.p (PV.str s)]]=(vs'++[s]).map fun w=>[AV.p (.str w)]:=by
  rw[List.take_of_length_le (by simp)];simp[Function.comp_def]
 have hlen:vs'.length+1=(vs'++[s]).length:=by simp
 refine⟨by omega,by omega,?_⟩
 rw[hrow,hlen]
 have hsm:(Sm.mk 1 s [e] [] []).cs=[.int .i64 1,.str s,exL [e],smL [],smL []]:=Sm.cs_eq _
 refine⟨_,_,q,_,.agg ((Sm.mk 1 s [e] [] []).cs.map .p),vs'++[s],next+1,l',rfl,rfl,.one (dk rfl) .nil,.agg ?_ .nil,⟨s,hs,rfl,h1,h2,rfl,rfl,rfl⟩⟩
 rw[hsm]
 refine .keep (by simp) (.keep (by simp) (.one ?_ (.one (View.nils 5) (.one (View.nils 5) .nil))))
 exact de (l:=[e]) (by rw[List.map_singleton,hec];rfl)
theorem El{b:List Int}(hb:Byt b)(hl:b.length≤2000){p:Nat}(hp:p+2≤1000000000000)(fns:List Fd)(vs:List (List UInt8))(hv:od vs){next:Int}(hn: -1≤next)(hn2:next≤1000000000000)(left:Int)(N:Int):
 AC Tryd.prog G ca [.ptr 1 5 0 0,.agg [.p (.int .i64 1),.p (.int .i64 N),.p (.str []),.nils]] (HG b p fns vs next left) (PG b fns (Ge p ⟨1,N,[],[]⟩ vs next left) []):=by
 refine iI G (AC.go jt ?_)
 simp-implicitDefEqProofs[fG,HG,bP]
 refine(ct G (xw G hb hl hp fns vs hv hn hn2 left) _ (by simp[below])).mono ?_
 rintro r h ⟨v,q,vs',n',l',rfl,rfl,⟨s,rfl,hs⟩,h1,h2,rfl,rfl,rfl⟩
 have hsl:ay vs'= .lst 1 (vs'.map fun w=>[.str w]):=rfl
 simp-implicitDefEqProofs[aa,bP,hsl]
 have hv1:=hv.1
 have hrow:List.take vs'.length (List.map ((fun x=>List.map AV.p x)∘fun w=>[PV.str w]) vs')++[[AV.p (PV.str s)]]=(vs'++[s]).map fun w=>[AV.p (.str w)]:=by
  rw[List.take_of_length_le (by simp)];simp[Function.comp_def]
 have hlen:vs'.length+1=(vs'++[s]).length:=by simp
 refine⟨by omega,by omega,?_⟩
 rw[hrow,hlen]
 have hsm:(Sm.mk 1 s [⟨1,N,[],[]⟩] [] []).cs=[.int .i64 1,.str s,exL [⟨1,N,[],[]⟩],smL [],smL []]:=Sm.cs_eq _
 refine⟨_,_,q,_,.agg ((Sm.mk 1 s [⟨1,N,[],[]⟩] [] []).cs.map .p),vs'++[s],next+1,l',rfl,rfl,.one (dk rfl) .nil,.agg ?_ .nil,⟨s,hs,rfl,h1,h2,rfl,rfl,rfl⟩⟩
 rw[hsm]
 refine .keep (by simp) (.keep (by simp) (.one ?_ (.one (View.nils 5) (.one (View.nils 5) .nil))))
 refine View.sl _ _ _ _ [(Ex.mk 1 N [] []).cs] rfl (by simp) (by simp) fun i j e q e' a a1 a2 a3 a4=>?_
 rw[Nat.zero_add] at a3
 match i,a1,a3 with
 |0,a1,a3=>
  cases a1;cases a3
  have hn:(Ex.mk 1 N [] []).cs=[.int .i64 1,.int .i64 N,.str [],.lst 4 []]:=Ex.cs_eq _
  rw[hn] at a2
  match j,a2,a4 with
  |0,e1,e2=>cases e1;cases e2;exact .p _
  |1,e1,e2=>cases e1;cases e2;exact .p _
  |2,e1,e2=>cases e1;cases e2;exact .p _
  |3,e1,e2=>cases e1;cases e2;exact View.nils 4
  |j+4,e1,e2=>simp at e1
 |i+1,a1,a3=>simp at a1
end Go.Proofs.YtiojgfhdcpppcaaDoor
namespace Go.Proofs.YtiojgfhdcpppcaaDoor
open Go Go.Aw
set_option maxRecDepth 100000
set_option maxHeartbeats 4000000
def Pd(d:Nat):Nat:=5000*20^d
structure Bd (n:Nat) (p:Nat) (vs:List (List UInt8)) (next left:Int):Prop where
 p:p+n≤100000000000
 v:vs.length+n/50≤900000
 w:∀s∈vs,s.length≤8
 n0: -1≤next
 n1:next+n≤100000000000
 l0: -100000000000≤left-n
 l1:left≤100000000000
theorem Bd.shrt{n p:Nat}{vs:List (List UInt8)}{next left:Int}(h:Bd n p vs next left):od vs:=⟨by have:=h.v;omega,h.w⟩
def Mv(n p q:Nat)(next next' left left':Int):Prop:=p≤q∧q≤p+n∧next≤next'∧next'≤next+n∧left-n≤left'∧left'≤left
def BV(b:List Int)(fns:List Fd)(vs:List (List UInt8))(p n:Nat)(next left:Int)(rest:List AO)(x:ARes)(h:List AO):Prop:=
 ∃(out:List Sm) (q:Nat) (next' left':Int),x= .ret (.sl (3+rest.length) 5 0 out.length)∧h=rdO b q:: .row 5 [bP fns vs next' left']::bF 3 (aS fns)::rest++[.row 5 (smR out)]∧aC out≤n∧out.length≤100∧Mv n p q next next' left left'
def xO(G:aG)(b:List Int)(fns:List Fd)(d:Nat):Prop:=∀{p:Nat} {vs:List (List UInt8)} {next left:Int},Bd (Pd d) p vs next left→AC Tryd.prog G aK [.ptr 1 5 0 0,.p (.int .i64 d)] (HG b p fns vs next left) (BV b fns vs p (Pd d) next left [])
variable (G:aG)
theorem ng{b:List Int}{fns:List Fd}{d p:Nat}{vs:List (List UInt8)}{next left:Int}(H:AC Tryd.prog G aK [.ptr 1 5 0 0,.p (.int .i64 d)] (HG b p fns vs next left) (BV b fns vs p (Pd d) next left []))(rest:List AO):
 AC Tryd.prog G aK [.ptr 1 5 0 0,.p (.int .i64 d)] (rdO b p:: .row 5 [bP fns vs next left]::bF 3 (aS fns)::rest) (BV b fns vs p (Pd d) next left rest):=by
 have H2:AC Tryd.prog G aK [.ptr 1 5 0 0,.p (.int .i64 d)] (HG b p fns vs next left) fun x h'=>∃h1 es,h'=h1++[.row 5 es]∧h1.length=(HG b p fns vs next left).length∧x= .ret (.sl (HG b p fns vs next left).length 5 0 es.length)∧(∀e∈es,ah 0 e)∧
  (∃(out:List Sm) (q:Nat) (next' left':Int),es=smR out∧h1=HG b q fns vs next' left'∧aC out≤Pd d∧out.length≤100∧Mv (Pd d) p q next next' left left'):=by
  refine H.mono ?_
  rintro x h ⟨out,q,n',l',rfl,rfl,h1,h2,h3⟩
  exact⟨HG b q fns vs n' l',smR out,rfl,rfl,by simp[HG,ep],dc out,out,q,n',l',rfl,rfl,h1,h2,h3⟩
 refine(AC.pre1 (R:=fun h1 es=>∃(out:List Sm) (q:Nat) (next' left':Int),es=smR out∧h1=HG b q fns vs next' left'∧aC out≤Pd d∧out.length≤100∧Mv (Pd d) p q next next' left left') H2 rest (by simp[below,HG]) (zB _ _ _ _ _ _) ?_).mono ?_
 ·rintro h1 es ⟨out,q,n',l',rfl,rfl,_⟩
  exact zB _ _ _ _ _ _
 ·rintro x h ⟨h1,es,rfl,_,rfl,_,out,q,n',l',rfl,rfl,r⟩
  exact⟨out,q,n',l',by simp[HG,ep],rfl,r⟩
def K_spec_l3Gen_loop:AK:= .seq (.reg [oJ 4 (.mov (.c .nils))]) (.seq (.reg [oM 9 0,oM 10 0,oN 11 10,oF 12 0 11,oL 13 12,oJ 14 (.bsl 1 [(.p (.int .i64 0))] 5 [(0,1,(.c (.p (.int .i64 2)))),(1,1,(.c (.p (.int .i64 3)))),(2,1,(.c (.p (.int .i64 1)))),(3,1,(.c (.p (.int .i64 0)))),(4,1,(.c (.p (.int .i64 5))))]),oJ 15 (.call aj [(.t 13),(.t 14)]),oJ 16 (.bld [(.p (.int .i64 0)),(.p (.int .i64 0)),(.p (.str [])),.nils] [(0,1,(.c (.p (.int .i64 1)))),(1,1,(.t 15))]),oJ 17 (.call ca [(.t 9),(.t 16)]),oJ 5 (.alloc [(.p (.int .i64 0)),(.p (.str [])),.nils,.nils,.nils]),⟨none,none,.st 5 (.t 5) (.t 17)⟩]) (.seq (.reg [oF 18 1 5,oL 19 18,oJ 20 (.bld [(.p (.int .i64 0)),(.p (.int .i64 0)),(.p (.str [])),.nils] [(0,1,(.c (.p (.int .i64 2)))),(2,1,(.t 19))]),oJ 6 (.alloc [(.p (.int .i64 0)),(.p (.int .i64 0)),(.p (.str [])),.nils]),⟨none,none,.st 4 (.t 6) (.t 20)⟩]) (.seq (.reg [oM 21 0,oM 22 1,oJ 23 (.bin .sub (.t 22) (.c (.p (.int .i64 1)))),oJ 24 (.call aK [(.t 21),(.t 23)]),oM 7 24]) (.seq (.reg [oF 25 1 5,oL 26 25,oJ 27 (.ld (some 4) (.t 6)),oJ 28 (.bld [(.p (.int .i64 0)),(.p (.int .i64 0)),(.p (.str [])),.nils] [(0,1,(.c (.p (.int .i64 1)))),(1,1,(.c (.p (.int .i64 1))))]),oJ 29 (.bsl 4 [(.p (.int .i64 0)),(.p (.int .i64 0)),(.p (.str [])),.nils] 2 [(0,4,(.t 27)),(4,4,(.t 28))]),oJ 30 (.bld [(.p (.int .i64 0)),(.p (.int .i64 0)),(.p (.str [])),.nils] [(0,1,(.c (.p (.int .i64 4)))),(3,1,(.t 29))]),oJ 31 (.bsl 4 [(.p (.int .i64 0)),(.p (.int .i64 0)),(.p (.str [])),.nils] 1 [(0,4,(.t 30))]),oJ 32 (.bld [(.p (.int .i64 0)),(.p (.str [])),.nils,.nils,.nils] [(0,1,(.c (.p (.int .i64 2)))),(1,1,(.t 26)),(2,1,(.t 31))]),oJ 8 (.alloc [(.p (.int .i64 0)),(.p (.str [])),.nils,.nils,.nils]),⟨none,none,.st 5 (.t 8) (.t 32)⟩]) (.cut (.reg [oM 33 0,oM 34 0,oN 35 34,oF 36 4 35,oL 37 36,oJ 38 (.bin .sub (.t 37) (.c (.p (.int .i64 2)))),oN 39 33,oF 40 4 39,oS 40 38]) (.seq (.reg [oM 44 7,oJ 41 (.ld (some 5) (.t 5)),oJ 42 (.ld (some 4) (.t 6)),oJ 43 (.bslP 4 [(.p (.int .i64 0)),(.p (.int .i64 0)),(.p (.str [])),.nils] 1 [(0,4,(.t 42))]),oJ 45 (.ld (some 5) (.t 8)),oJ 46 (.bslP 5 [(.p (.int .i64 0)),(.p (.str [])),.nils,.nils,.nils] 1 [(0,5,(.t 45))]),oJ 47 (.app 5 96 (.t 44) (.t 46)),⟨none,none,.chk (some 5) 5 41⟩,⟨none,none,.chk (some 4) 6 42⟩,oJ 48 (.bld [(.p (.int .i64 0)),(.p (.str [])),.nils,.nils,.nils] [(0,1,(.c (.p (.int .i64 6)))),(2,1,(.t 43)),(3,1,(.t 47))]),oJ 49 (.bsl 5 [(.p (.int .i64 0)),(.p (.str [])),.nils,.nils,.nils] 2 [(0,5,(.t 41)),(5,5,(.t 48))]),oM 4 49]) (.ret)))))))
theorem nL:K_spec_l3Gen_loop.whole=F_spec_l3Gen_loop.ak:=rfl
def Hx(n p:Nat)(vs:List (List UInt8))(next left:Int)(v:AV)(q:Nat)(vs':List (List UInt8))(next' left':Int):Prop:=
 ∃(out:List Sm) (s:List UInt8),v= .p (smL out)∧aC out≤n∧1≤out.length∧out.length≤2∧s.length≤8∧vs'=vs++[s]∧Mv n p q next next' left left'
theorem zd{b:List Int}(hb:Byt b)(hl:b.length≤2000)(fns:List Fd){d:Nat}(hd:d≤10)(hblk:xO G b fns d){p:Nat}{vs:List (List UInt8)}{next left:Int}(hB:Bd (Pd d+60) p vs next left):
 AC Tryd.prog G fk [.ptr 1 5 0 0,.p (.int .i64 ((d:Int)+1))] (HG b p fns vs next left) (PG b fns (Hx (Pd d+60) p vs next left) []):=by
 have hp:=hB.p
 have hv:=hB.v
 have hn0:=hB.n0
 have hn1:=hB.n1
 have hl0:=hB.l0
 have hl1:=hB.l1
 refine iI G (AC.goK nJ nL ?_)
 simp-implicitDefEqProofs[K_spec_l3Gen_loop,F_spec_l3Gen_loop,HG,bP]
 refine(iJ G hb hl (p:=p) (by omega) [2,3,1,0,5] (k:=3) (by simp) (by simp) (by omega) rfl rfl).mono ?_
 rintro r h ⟨N,hN,rfl,rfl⟩
 have hN5:0≤N∧N≤5:=by simp at hN;omega
 simp-implicitDefEqProofs[aa]
 refine(ct G (El G hb hl (p:=p+1) (by omega) fns vs hB.shrt hn0 (by omega) left N) _ (by simp[below])).mono ?_
 rintro r h ⟨v,q,vs',n',l',rfl,rfl,s,hs,rfl,h1,h2,rfl,rfl,rfl⟩
 have hsm:(Sm.mk 1 s [⟨1,N,[],[]⟩] [] []).cs=[.int .i64 1,.str s,exL [⟨1,N,[],[]⟩],smL [],smL []]:=Sm.cs_eq _
 have hwd:IntKind.i64.wrap ((d:Int)+1-1)=d:=by rw[ag (by omega) (by omega)];omega
 have hw2:IntKind.i64.wrap (d:Int)=d:=ag (by omega) (by omega)
 simp-implicitDefEqProofs[aa,bP,hsm,hw2]
 have hB2:Bd (Pd d) q (vs++[s]) (next+1) l':=⟨by omega,by simp;omega,fun w hw=>by
  rcases List.mem_append.1 hw with h|h
  ·exact hB.w w h
  ·rw[List.mem_singleton.1 h];exact hs,by omega,by omega,by omega,by omega⟩
 refine(ng G (hblk hB2) _).mono ?_
 rintro r h ⟨out,q2,n2,l2,rfl,rfl,z1,z2,m1,m2,m3,m4,m5,m6⟩
 have hwl:IntKind.i64.wrap (l2-2)=l2-2:=ag (by omega) (by omega)
 simp-implicitDefEqProofs[aa,bP,hwl]
 have hHb:∀(l:Int),okO 7 (.row 5 [[.ptr 0 2 0 0,slE 2 3 (aS fns),.p (ay (vs++[s])),.p (.int .i64 n2),.p (.int .i64 l)]]):=fun l e he=>by
  rw[List.mem_singleton.1 he];exact⟨by simp[below],kX (by omega),by simp,by simp,by simp,trivial⟩
 refine iu (am 50 [(0,.ptr 1 5 0 0),(5,.ptr 3 5 0 0),(6,.ptr 4 4 0 0),(7,.sl 5 5 0 out.length),(8,.ptr 6 5 0 0)])
  [rdO b q2,.row 5 [[.ptr 0 2 0 0,slE 2 3 (aS fns),.p (ay (vs++[s])),.p (.int .i64 n2),.p (.int .i64 (l2-2))]],bF 3 (aS fns),
   .row 5 [[.p (.int .i64 1),.p (.str s),.p (exL [Ex.mk 1 N [] []]),.p (smL []),.p (smL [])]],.row 4 [[.p (.int .i64 2),.p (.int .i64 0),.p (.str s),.p (exL [])]],.row 5 (smR out),
   .row 5 [[.p (.int .i64 2),.p (.str s),.p (exL [Ex.mk 4 0 [] [⟨2,0,s,[]⟩,⟨1,1,[],[]⟩]]),.p (smL []),.p (smL [])]]] ?_ ?_
 ·simp-implicitDefEqProofs[hwl]
  refine Wk.trans (cJ (l1:=[(0,.ptr 1 5 0 0),(5,.ptr 3 5 0 0),(6,.ptr 4 4 0 0),(7,.sl 5 5 0 out.length),(8,.ptr 6 5 0 0)])
   (h1:=[rdO b q2,.row 5 [[.ptr 0 2 0 0,slE 2 3 (aS fns),.p (ay (vs++[s])),.p (.int .i64 n2),.p (.int .i64 (l2-2))]],bF 3 (aS fns),
   .row 5 [[.p (.int .i64 1),.p (.str s),.p (exL [Ex.mk 1 N [] []]),.p (smL []),.p (smL [])]],.row 4 [[.p (.int .i64 2),.p (.int .i64 0),.p (.str s),.nils]],.row 5 (smR out),
   .row 5 [[.p (.int .i64 2),.p (.str s),.sl 8 4 0 1,.nils,.nils]],.row 4 [[.p (.int .i64 2),.p (.int .i64 0),.p (.str s),.nils],[.p (.int .i64 1),.p (.int .i64 1),.p (.str []),.nils]],.row 4 [[.p (.int .i64 4),.p (.int .i64 0),.p (.str []),.sl 7 4 0 2]]])
   [0,1,2,4,5,6,9,7,8] (by simp) (by decide) (by decide) (bn rfl (aZ _ _ _) (cC (by simp[below]) (by simp[ren,aX]) (bn rfl (iD _ _) (be rfl (by simp[below]) (be rfl (by simp[below]) (be rfl (dc out) (cC (by simp[below]) (by simp[ren,aX]) (be rfl (by simp[below]) (cC (by simp[below]) (by simp[ren,aX]) bm))))))))) (by simp[below,ren]))
   (gE 7 (by omega) (by simp) rfl (.same (aZ _ _ _) (.same (hHb _) (.same (iD _ _) (.same (by simp[okO,below]) (.one (.keep (by simp) (.keep (by simp) (.keep (by simp) (.one (View.nils 4) .nil)))) (.same (bU (dc out)) (.one (.keep (by simp) (.keep (by simp) (.one ?_ (.one (View.nils 5) (.one (View.nils 5) .nil))))) (.nil _)))))))) ?_)
  ·exact bg (p0:=(Ex.mk 4 0 [] [⟨2,0,s,[]⟩,⟨1,1,[],[]⟩]).cs) rfl (Ex.cs_len _) (dV (mS (p0:=(Ex.mk 2 0 s []).cs) (p1:=(Ex.mk 1 1 [] []).cs) rfl (Ex.cs_len _) (Ex.cs_len _) (dV (View.nils 4)) (dV (View.nils 4))))
  ·exact⟨.keep (by simp[below]) .nil,.keep (by simp[below]) .nil,.keep (by simp[below]) .nil,.keep (by simp[below]) .nil,.keep (by simp[below]) .nil,trivial⟩
 ·simp-implicitDefEqProofs[]
  have hless:(Sm.mk 2 s [Ex.mk 4 0 [] [⟨2,0,s,[]⟩,⟨1,1,[],[]⟩]] [] []).cs=[.int .i64 2,.str s,exL [Ex.mk 4 0 [] [⟨2,0,s,[]⟩,⟨1,1,[],[]⟩]],smL [],smL []]:=Sm.cs_eq _
  have hrow:List.take out.length (smR out)++[[AV.p (.int .i64 2),.p (.str s),.p (exL [Ex.mk 4 0 [] [⟨2,0,s,[]⟩,⟨1,1,[],[]⟩]]),.p (smL []),.p (smL [])]]=smR (out++[Sm.mk 2 s [Ex.mk 4 0 [] [⟨2,0,s,[]⟩,⟨1,1,[],[]⟩]] [] []]):=by
   rw[List.take_of_length_le (by rw[ep];exact Nat.le_refl _),tw];exact congrArg (smR out++ ·) (by rw[smR,List.map_singleton,hless];rfl)
  have hlen:out.length+1=(out++[Sm.mk 2 s [Ex.mk 4 0 [] [⟨2,0,s,[]⟩,⟨1,1,[],[]⟩]] [] []]).length:=by simp
  refine⟨⟨by rw[ep];exact Nat.le_refl _,by omega,by omega⟩,?_⟩
  rw[hrow,hlen]
  refine⟨_,_,q2,_,.p (smL [Sm.mk 1 s [⟨1,N,[],[]⟩] [] [],Sm.mk 6 [] [⟨2,0,s,[]⟩] (out++[Sm.mk 2 s [Ex.mk 4 0 [] [⟨2,0,s,[]⟩,⟨1,1,[],[]⟩]] [] []]) []]),vs++[s],n2,l2-2,rfl,rfl,.keep (by simp) .nil,
   .one (mS (p0:=(Sm.mk 1 s [⟨1,N,[],[]⟩] [] []).cs) (p1:=(Sm.mk 6 [] [⟨2,0,s,[]⟩] (out++[Sm.mk 2 s [Ex.mk 4 0 [] [⟨2,0,s,[]⟩,⟨1,1,[],[]⟩]] [] []]) []).cs) rfl (Sm.cs_len _) (Sm.cs_len _)
    (bC (.p _) (.p _) (.p _)) (bC ?_ (ic rfl) (View.nils 5))) .nil,_,s,rfl,?_,by simp,by simp,hs,rfl,?_⟩
  ·have h2:(Ex.mk 2 0 s []).cs=[.int .i64 2,.int .i64 0,.str s,exL []]:=Ex.cs_eq _
   have he:exL [Ex.mk 2 0 s []]= .lst 4 [[.int .i64 2,.int .i64 0,.str s,exL []]]:=by rw[exL,List.map_singleton,h2]
   rw[he]
   exact .p _
  ·simp[aC,bi,Sm.sz,Ex.sz,aP]
   omega
  ·exact⟨by omega,by omega,by omega,by omega,by omega,by omega⟩
end Go.Proofs.YtiojgfhdcpppcaaDoor
namespace Go.Proofs.YtiojgfhdcpppcaaDoor
open Go Go.Aw
set_option maxRecDepth 100000
set_option maxHeartbeats 4000000
variable (G:aG)
def FR(n p:Nat)(vs:List (List UInt8))(next left:Int)(v:AV)(q:Nat)(vs':List (List UInt8))(next' left':Int):Prop:=
 ∃out:List Sm,v= .p (smL out)∧aC out≤n∧1≤out.length∧out.length≤2∧(vs'=vs∨∃s:List UInt8,s.length≤8∧vs'=vs++[s])∧Mv n p q next next' left left'
theorem DA{b:List Int}(hb:Byt b)(hl:b.length≤2000)(fns:List Fd)(hf:qD fns){d:Nat}(hd:d≤10)(hblk:1≤d→xO G b fns d){p:Nat}{vs:List (List UInt8)}{next left:Int}(hB:Bd (2*Pd d+3000) p vs next left):
 AC Tryd.prog G eX [.ptr 1 5 0 0,.p (.int .i64 ((d:Int)+1))] (HG b p fns vs next left) (PG b fns (FR (2*Pd d+3000) p vs next left) []):=by
 have hp:=hB.p
 have hv:=hB.v
 have hn0:=hB.n0
 have hn1:=hB.n1
 have hl0:=hB.l0
 have hl1:=hB.l1
 refine iI G (AC.go nP ?_)
 have hwl:IntKind.i64.wrap (left-1)=left-1:=ag (by omega) (by omega)
 have hsl:ay vs= .lst 1 (vs.map fun w=>[.str w]):=rfl
 simp-implicitDefEqProofs[iC,HG,bP,hwl]
 refine(aT G b hb hl p (by omega) 13 _).mono ?_
 rintro r h ⟨k,rfl,rfl,hk⟩
 have one:∀(m:Sm) (q:Nat) (rest:List AO) (v:AV) (vc:AV) (vs':List (List UInt8)) (next' left':Int),Fzs (.dead:: .dead:: .dead::rest) 3 [vc] [.p (ay vs')]→Fzs (.dead:: .dead:: .dead::rest) 3 [v] [.p (smL [m])]→m.sz≤2*Pd d+3000→(vs'=vs∨∃s:List UInt8,s.length≤8∧vs'=vs++[s])→Mv (2*Pd d+3000) p q next next' left left'→
  DG b fns (FR (2*Pd d+3000) p vs next left) (.ret v) (rdO b q:: .row 5 [[.ptr 0 2 0 0,slE 2 3 (aS fns),vc,.p (.int .i64 next'),.p (.int .i64 left')]]::bF 3 (aS fns)::rest):=fun m q rest v vc vs' next' left' h1 h2 h3 h4 h5=>
  ⟨_,rest,q,_,_,vs',next',left',rfl,rfl,h1,h2,[m],rfl,by simp[aC];omega,by simp,by simp,h4,h5⟩
 by_cases hc:k<3∧vs≠[]
 ·obtain⟨hc1,hne⟩:=hc
  have hpos:0<vs.length:=List.length_pos_iff.2 hne
  have hc1':(k:Int)<3:=by omega
  have hv1:=hB.v
  simp-implicitDefEqProofs[aa,hsl,hc1,hc1',hpos]
  rw[←hsl]
  refine(xh G hb hl (p:=p+1) (by omega) vs hne (by omega) _).mono ?_
  rintro r h ⟨w,hw,rfl,rfl⟩
  have hw8:=hB.w w hw
  simp-implicitDefEqProofs[aa]
  refine(ct G (jb G hb hl (p:=p+1+1) (by omega) fns hf vs hB.shrt next (left-1) (d:=3) (by omega)) _ (by simp[below])).mono ?_
  rintro r h ⟨v,q,vs',n',l',rfl,rfl,⟨e,rfl,he⟩,h1,h2,rfl,rfl,rfl⟩
  have hec:=e.cs_eq
  simp-implicitDefEqProofs[aa,bP,hec]
  exact one ⟨2,w,[e],[],[]⟩ q _ _ _ vs' n' (left-1) (.keep (by simp) .nil) (.one (bg (p0:=(Sm.mk 2 w [e] [] []).cs) rfl (Sm.cs_len _) (bC (de (l:=[e]) (by rw[List.map_singleton,hec];rfl)) (View.nils 5) (View.nils 5))) .nil) (by simp[Sm.sz,aP,aC];omega) (.inl rfl) ⟨by omega,by omega,by omega,by omega,by omega,by omega⟩
 have hcc:(k<3∧0<vs.length)=False:=by
  simp only[eq_iff_iff,iff_false]
  exact fun⟨a,c⟩=>hc ⟨a,List.length_pos_iff.1 c⟩
 have hvz:(k:Int)<3→vs.length=0:=fun h=>by
  by_cases e:vs=[]
  ·rw[e];rfl
  ·exact absurd ⟨by omega,e⟩ hc
 have hvx:=hB.shrt
 have hvv:=hB.v
 by_cases k5:(k:Int)<5
 ·by_cases k3:(k:Int)<3
  ·have hv0:=hvz k3
   simp-implicitDefEqProofs[aa,hsl,k3,hv0,k5]
   rw[←hsl]
   refine(ct G (jb G hb hl (p:=p+1) (by omega) fns hf vs hvx next (left-1) (d:=3) (by omega)) _ (by simp[below])).mono ?_
   rintro r h ⟨v,q,vs',n',l',rfl,rfl,⟨e,rfl,he⟩,h1,h2,rfl,rfl,rfl⟩
   have hec:=e.cs_eq
   have hL:=Db G hb hl (p:=q) (by omega) fns vs' hvx hn0 (by omega) (left-1) e
   rw[hec] at hL
   simp-implicitDefEqProofs[aa,bP,hec]
   refine(ct G hL _ (by simp[below])).mono ?_
   rintro r h ⟨v,q2,vs2,n2,l2,rfl,rfl,s,hs,rfl,h3,h4,rfl,rfl,rfl⟩
   have hsm:(Sm.mk 1 s [e] [] []).cs=[.int .i64 1,.str s,exL [e],smL [],smL []]:=Sm.cs_eq _
   simp-implicitDefEqProofs[aa,bP,hsm]
   exact one ⟨1,s,[e],[],[]⟩ q2 _ _ _ (vs'++[s]) (n'+1) (left-1) (.keep (by simp) .nil) (.one (bg (p0:=(Sm.mk 1 s [e] [] []).cs) rfl (Sm.cs_len _) (bC (.p _) (.p _) (.p _))) .nil) (by simp[Sm.sz,aP,aC];omega) (.inr ⟨s,hs,rfl⟩) ⟨by omega,by omega,by omega,by omega,by omega,by omega⟩
  ·simp-implicitDefEqProofs[aa,hsl,k3,k5]
   rw[←hsl]
   refine(ct G (jb G hb hl (p:=p+1) (by omega) fns hf vs hvx next (left-1) (d:=3) (by omega)) _ (by simp[below])).mono ?_
   rintro r h ⟨v,q,vs',n',l',rfl,rfl,⟨e,rfl,he⟩,h1,h2,rfl,rfl,rfl⟩
   have hec:=e.cs_eq
   have hL:=Db G hb hl (p:=q) (by omega) fns vs' hvx hn0 (by omega) (left-1) e
   rw[hec] at hL
   simp-implicitDefEqProofs[aa,bP,hec]
   refine(ct G hL _ (by simp[below])).mono ?_
   rintro r h ⟨v,q2,vs2,n2,l2,rfl,rfl,s,hs,rfl,h3,h4,rfl,rfl,rfl⟩
   have hsm:(Sm.mk 1 s [e] [] []).cs=[.int .i64 1,.str s,exL [e],smL [],smL []]:=Sm.cs_eq _
   simp-implicitDefEqProofs[aa,bP,hsm]
   exact one ⟨1,s,[e],[],[]⟩ q2 _ _ _ (vs'++[s]) (n'+1) (left-1) (.keep (by simp) .nil) (.one (bg (p0:=(Sm.mk 1 s [e] [] []).cs) rfl (Sm.cs_len _) (bC (.p _) (.p _) (.p _))) .nil) (by simp[Sm.sz,aP,aC];omega) (.inr ⟨s,hs,rfl⟩) ⟨by omega,by omega,by omega,by omega,by omega,by omega⟩
 have k3:¬(k:Int)<3:=by omega
 by_cases k7:(k:Int)<7∨d=0
 ·by_cases k7':(k:Int)<7
  ·simp-implicitDefEqProofs[aa,k3,k5,k7']
   refine(ct G (jb G hb hl (p:=p+1) (by omega) fns hf vs hvx next (left-1) (d:=3) (by omega)) _ (by simp[below])).mono ?_
   rintro r h ⟨v,q,vs',n',l',rfl,rfl,⟨e,rfl,he⟩,h1,h2,rfl,rfl,rfl⟩
   have hec:=e.cs_eq
   simp-implicitDefEqProofs[aa,bP,hec]
   exact one ⟨3,[],[e],[],[]⟩ q _ _ _ vs' n' (left-1) (.keep (by simp) .nil) (.one (bg (p0:=(Sm.mk 3 [] [e] [] []).cs) rfl (Sm.cs_len _) (bC (de (l:=[e]) (by rw[List.map_singleton,hec];rfl)) (View.nils 5) (View.nils 5))) .nil) (by simp[Sm.sz,aP,aC];omega) (.inl rfl) ⟨by omega,by omega,by omega,by omega,by omega,by omega⟩
  ·have hdl:(d:Int)+1<2:=by omega
   simp-implicitDefEqProofs[aa,k3,k5,k7',hdl]
   refine(ct G (jb G hb hl (p:=p+1) (by omega) fns hf vs hvx next (left-1) (d:=3) (by omega)) _ (by simp[below])).mono ?_
   rintro r h ⟨v,q,vs',n',l',rfl,rfl,⟨e,rfl,he⟩,h1,h2,rfl,rfl,rfl⟩
   have hec:=e.cs_eq
   simp-implicitDefEqProofs[aa,bP,hec]
   exact one ⟨3,[],[e],[],[]⟩ q _ _ _ vs' n' (left-1) (.keep (by simp) .nil) (.one (bg (p0:=(Sm.mk 3 [] [e] [] []).cs) rfl (Sm.cs_len _) (bC (de (l:=[e]) (by rw[List.map_singleton,hec];rfl)) (View.nils 5) (View.nils 5))) .nil) (by simp[Sm.sz,aP,aC];omega) (.inl rfl) ⟨by omega,by omega,by omega,by omega,by omega,by omega⟩
 have k7':¬(k:Int)<7:=fun h=>k7 (.inl h)
 have hd1:1≤d:=by omega
 have hd2:¬((d:Int)+1)<2:=by omega
 have hblk2:xO G b fns d:= @hblk hd1
 by_cases e7:(k:Int)=7
 ·simp-implicitDefEqProofs[aa,k3,k5,k7',hd2,e7]
  refine(ct G (Ba G hb hl (p:=p+1) (by omega) fns hf vs hvx next (left-1)) _ (by simp[below])).mono ?_
  rintro r h ⟨v,q,vs',n',l',rfl,rfl,⟨e,rfl,he⟩,h1,h2,rfl,rfl,rfl⟩
  have hec:=e.cs_eq
  simp-implicitDefEqProofs[aa,bP,hec]
  refine(ct G (jb G hb hl (p:=q) (by omega) fns hf vs' hvx n' (left-1) (d:=2) (by omega)) _ (by simp[below])).mono ?_
  rintro r h ⟨v,q2,vs2,n2,l2,rfl,rfl,⟨e2,rfl,he2⟩,h3,h4,rfl,rfl,rfl⟩
  have hec2:=e2.cs_eq
  simp-implicitDefEqProofs[aa,bP,hec2]
  exact one ⟨4,[],[e,e2],[],[]⟩ q2 _ _ _ vs2 n2 (left-1) (.keep (by simp) .nil) (.one (bg (p0:=(Sm.mk 4 [] [e,e2] [] []).cs) rfl (Sm.cs_len _) (bC (de (l:=[e,e2]) (by rw[List.map_cons,List.map_singleton,hec,hec2];rfl)) (View.nils 5) (View.nils 5))) .nil) (by simp[Sm.sz,aP,aC];omega) (.inl rfl) ⟨by omega,by omega,by omega,by omega,by omega,by omega⟩
 by_cases e8:(k:Int)=8
 ·simp-implicitDefEqProofs[aa,k3,k5,k7',hd2,e7,e8]
  refine(ct G (Ba G hb hl (p:=p+1) (by omega) fns hf vs hvx next (left-1)) _ (by simp[below])).mono ?_
  rintro r h ⟨v,q,vs',n',l',rfl,rfl,⟨e,rfl,he⟩,h1,h2,rfl,rfl,rfl⟩
  have hec:=e.cs_eq
  simp-implicitDefEqProofs[aa,bP,hec]
  exact one ⟨3,[],[⟨12,0,[],[e]⟩],[],[]⟩ q _ _ _ vs' n' (left-1) (.keep (by simp) .nil) (.one (bg (p0:=(Sm.mk 3 [] [⟨12,0,[],[e]⟩] [] []).cs) rfl (Sm.cs_len _) (bC (bg (p0:=(Ex.mk 12 0 [] [e]).cs) rfl (Ex.cs_len _) (dV (de (l:=[e]) (by rw[List.map_singleton,hec];rfl)))) (View.nils 5) (View.nils 5))) .nil) (by simp[Sm.sz,Ex.sz,aP,aC];omega) (.inl rfl) ⟨by omega,by omega,by omega,by omega,by omega,by omega⟩
 have hwd:IntKind.i64.wrap ((d:Int)+1-1)=d:=by rw[ag (by omega) (by omega)];omega
 have hwd2:IntKind.i64.wrap (d:Int)=d:=ag (by omega) (by omega)
 by_cases k11:(k:Int)<11
 ·simp-implicitDefEqProofs[aa,k3,k5,k7',hd2,e7,e8,k11]
  refine(ct G (jb G hb hl (p:=p+1) (by omega) fns hf vs hvx next (left-1) (d:=3) (by omega)) _ (by simp[below])).mono ?_
  rintro r h ⟨v,q,vs',n',l',rfl,rfl,⟨e,rfl,he⟩,h1,h2,rfl,rfl,rfl⟩
  have hec:=e.cs_eq
  simp-implicitDefEqProofs[aa,bP,hec,hwd2]
  have hB2:Bd (Pd d) q vs' n' (left-1):=⟨by omega,by omega,hB.w,by omega,by omega,by omega,by omega⟩
  refine(ng G (hblk2 hB2) _).mono ?_
  rintro r h ⟨out,q2,n2,l2,rfl,rfl,z1,z2,m1,m2,m3,m4,m5,m6⟩
  simp-implicitDefEqProofs[aa,bP]
  refine(aT G b hb hl q2 (by omega) 2 _).mono ?_
  rintro r h ⟨k2,rfl,rfl,_⟩
  simp-implicitDefEqProofs[aa]
  refine bc (fun hq=>?_) (fun hq=>?_)
  ·simp-implicitDefEqProofs[hwd2]
   have hB3:Bd (Pd d) (q2+1) vs' n2 l2:=⟨by omega,by omega,hB.w,by omega,by omega,by omega,by omega⟩
   refine(ng G (hblk2 hB3) _).mono ?_
   rintro r h ⟨out2,q3,n3,l3,rfl,rfl,y1,y2,w1,w2,w3,w4,w5,w6⟩
   simp-implicitDefEqProofs[aa,bP]
   exact one ⟨5,[],[e],out,out2⟩ q3 _ _ _ vs' n3 l3 (.keep (by simp) .nil) (.one (bg (p0:=(Sm.mk 5 [] [e] out out2).cs) rfl (Sm.cs_len _) (bC (de (l:=[e]) (by rw[List.map_singleton,hec];rfl)) (ic rfl) (ic rfl))) .nil) (by simp[Sm.sz,aP];omega) (.inl rfl) ⟨by omega,by omega,by omega,by omega,by omega,by omega⟩
  ·simp-implicitDefEqProofs[]
   exact one ⟨5,[],[e],out,[]⟩ (q2+1) _ _ _ vs' n2 l2 (.keep (by simp) .nil) (.one (bg (p0:=(Sm.mk 5 [] [e] out []).cs) rfl (Sm.cs_len _) (bC (de (l:=[e]) (by rw[List.map_singleton,hec];rfl)) (ic rfl) (View.nils 5))) .nil) (by simp[Sm.sz,aP,aC];omega) (.inl rfl) ⟨by omega,by omega,by omega,by omega,by omega,by omega⟩
 by_cases e11:(k:Int)=11
 ·simp-implicitDefEqProofs[aa,k3,k5,k7',hd2,e7,e8,k11,e11]
  refine(aT G b hb hl (p+1) (by omega) 3 _).mono ?_
  rintro r h ⟨k2,rfl,rfl,_⟩
  simp-implicitDefEqProofs[aa]
  refine bc (fun hq=>?_) (fun hq=>?_)
  ·simp-implicitDefEqProofs[]
   refine(ct G (jb G hb hl (p:=p+1+1) (by omega) fns hf vs hvx next (left-1) (d:=2) (by omega)) _ (by simp[below])).mono ?_
   rintro r h ⟨v,q,vs',n',l',rfl,rfl,⟨e,rfl,he⟩,h1,h2,rfl,rfl,rfl⟩
   have hec:=e.cs_eq
   simp-implicitDefEqProofs[aa,bP,hec]
   exact one ⟨7,[],[e],[],[]⟩ q _ _ _ vs' n' (left-1) (.keep (by simp) .nil) (.one (bg (p0:=(Sm.mk 7 [] [e] [] []).cs) rfl (Sm.cs_len _) (bC (de (l:=[e]) (by rw[List.map_singleton,hec];rfl)) (View.nils 5) (View.nils 5))) .nil) (by simp[Sm.sz,aP,aC];omega) (.inl rfl) ⟨by omega,by omega,by omega,by omega,by omega,by omega⟩
  ·simp-implicitDefEqProofs[]
   have hBL:Bd (Pd d+60) (p+1+1) vs next (left-1):=⟨by omega,by omega,hB.w,hn0,by omega,by omega,by omega⟩
   refine(ct G (zd G hb hl fns hd hblk2 hBL) _ (by simp[below])).mono ?_
   rintro r h ⟨v,q,vs2,n2,l2,rfl,rfl,out,s,rfl,z1,z2,z3,hs,rfl,m1,m2,m3,m4,m5,m6⟩
   simp-implicitDefEqProofs[aa,bP]
   exact⟨_,_,q,_,_,vs++[s],n2,l2,rfl,rfl,.keep (by simp) .nil,.keep (by simp) .nil,out,rfl,by omega,z2,z3,.inr ⟨s,hs,rfl⟩,by omega,by omega,by omega,by omega,by omega,by omega⟩
 ·simp-implicitDefEqProofs[aa,k3,k5,k7',hd2,e7,e8,k11,e11]
  have hBL:Bd (Pd d+60) (p+1) vs next (left-1):=⟨by omega,by omega,hB.w,hn0,by omega,by omega,by omega⟩
  refine(ct G (zd G hb hl fns hd hblk2 hBL) _ (by simp[below])).mono ?_
  rintro r h ⟨v,q,vs2,n2,l2,rfl,rfl,out,s,rfl,z1,z2,z3,hs,rfl,m1,m2,m3,m4,m5,m6⟩
  simp-implicitDefEqProofs[aa,bP]
  exact⟨_,_,q,_,_,vs++[s],n2,l2,rfl,rfl,.keep (by simp) .nil,.keep (by simp) .nil,out,rfl,by omega,z2,z3,.inr ⟨s,hs,rfl⟩,by omega,by omega,by omega,by omega,by omega,by omega⟩
end Go.Proofs.YtiojgfhdcpppcaaDoor
namespace Go.Proofs.YtiojgfhdcpppcaaDoor
open Go Go.Aw
set_option maxRecDepth 100000
set_option maxHeartbeats 4000000
variable (G:aG)
structure BkS where (j m:Nat) (out:List Sm) (q:Nat) (vs:List (List UInt8)) (next left:Int)
theorem Gg(d:Nat):5000≤Pd d:=by
 have:1≤20^d:=Nat.one_le_pow _ _ (by omega)
 simp only[Pd];omega
theorem BZ(d:Nat):Pd (d+1)=20*Pd d:=by simp only[Pd,Nat.pow_succ];omega
theorem td{b:List Int}(hb:Byt b)(hl:b.length≤2000)(fns:List Fd)(hf:qD fns){d:Nat}(hd:d≤10)(hblk:1≤d→xO G b fns d):xO G b fns (d+1):=by
 intro p vs next left hB
 have hp:=hB.p
 have hv:=hB.v
 have hn0:=hB.n0
 have hn1:=hB.n1
 have hl0:=hB.l0
 have hl1:=hB.l1
 have hP:=Gg d
 have hPs:=BZ d
 generalize hN:Pd d=N at*
 rw[hPs] at hp hv hn1 hl0⊢
 have hGok:∀(vs:List (List UInt8)) (nx lf:Int),okO 4 (.row 5 [bP fns vs nx lf]):=fun vs nx lf e he=>by
  rw[List.mem_singleton.1 he];exact⟨by simp[below],kX (by omega),by simp,by simp,by simp,trivial⟩
 refine AC.go mw ?_
 simp-implicitDefEqProofs[gT,HG,bP]
 refine(iJ G hb hl (p:=p) (by omega) [2,3,1,4] (k:=4) (by simp) (by simp) (by omega) rfl rfl).mono ?_
 rintro r h ⟨I,hI,rfl,rfl⟩
 obtain⟨J,rfl,hJ⟩:∃J:Nat,I=J∧J≤4:=⟨I.toNat,by simp at hI;omega,by simp at hI;omega⟩
 simp-implicitDefEqProofs[aa]
 refine aR (fun s:BkS=>am 40 [(0,.ptr 1 5 0 0),(1,.p (.int .i64 ((d:Int)+1))),(5,.p (ay vs)),(6,.sl 3 5 0 s.out.length),(7,.p (.int .i64 s.j))])
  (fun s=>[rdO b s.q,.row 5 [bP fns s.vs s.next s.left],bF 3 (aS fns),.row 5 (smR s.out)])
  (fun s=>s.j+s.m≤4∧aC s.out≤s.m*(2*N+3000)∧s.out.length≤2*s.m∧p≤s.q∧s.q≤p+1+s.m*(2*N+3000)∧s.vs.length≤vs.length+s.m∧(∀w∈s.vs,w.length≤8)∧next≤s.next∧s.next≤next+((s.m*(2*N+3000):Nat):Int)∧left-((s.m*(2*N+3000):Nat):Int)≤s.left∧s.left≤left)
  (fun s=>s.j) ⟨J,0,[],p+1,vs,next,left⟩ ⟨by simp only;omega,by simp[aC],by simp,by simp,by simp,by simp,hB.w,by simp,by simp,by simp,by simp⟩ ?_ ?_
 ·refine eM (m:=4) (by omega) (cR (h1:=[rdO b (p+1),.row 5 [bP fns vs next left],bF 3 (aS fns),.row 5 (smR [])]) rfl rfl (af (aZ _ _ _) (af (hGok _ _ _) (af (iD _ _) (af (bU (dc [])) cy))))) (by simp[below])
 rintro⟨j,m,out,q,vs',nx,lf⟩ ⟨i1,i2,i3,i4,i5,i6,i7,i8,i9,i10,i11⟩
 simp only at i1 i2 i3 i4 i5 i6 i7 i8 i9 i10 i11
 simp-implicitDefEqProofs[bP]
 have hm4:m*(2*N+3000)≤4*(2*N+3000):=Nat.mul_le_mul_right _ (by omega)
 by_cases hc:0<j∧0<lf
 ·obtain⟨c1,c2⟩:=hc
  have hm3:m*(2*N+3000)≤3*(2*N+3000):=Nat.mul_le_mul_right _ (by omega)
  have hms:(m+1)*(2*N+3000)=m*(2*N+3000)+(2*N+3000):=by rw[Nat.add_mul,Nat.one_mul]
  have hmsI:((m+1:Nat):Int)*(2*(N:Int)+3000)=((m*(2*N+3000)+(2*N+3000):Nat):Int):=by rw[←hms];simp
  generalize m*(2*N+3000)=M at*
  have hB2:Bd (2*Pd d+3000) q vs' nx lf:=by
   rw[hN];exact⟨by omega,by omega,i7,by omega,by omega,by omega,by omega⟩
  have hS:=DA G hb hl fns hf hd hblk hB2
  rw[hN] at hS
  simp-implicitDefEqProofs[c1,c2]
  refine(ct G hS _ (by simp[below])).mono ?_
  rintro r h ⟨v,q2,vs2,n2,l2,rfl,rfl,out2,rfl,z1,z2,z3,hvs,m1,m2,m3,m4,m5,m6⟩
  have hsl:smL out2= .lst 5 (out2.map Sm.cs):=rfl
  simp-implicitDefEqProofs[aa,bP,hsl]
  have hol:(smR out).length=out.length:=ep out
  have hwj:IntKind.i64.wrap ((j:Int)-1)=((j-1:Nat):Int):=by rw[ag (by omega) (by omega)];omega
  have hrow:List.take out.length (smR out)++List.map ((fun x=>List.map AV.p x)∘Sm.cs) out2=smR (out++out2):=by
   rw[List.take_of_length_le (by omega),tw];rfl
  refine⟨⟨by omega,by omega,by omega⟩,⟨j-1,m+1,out++out2,q2,vs2,n2,l2⟩,⟨by simp only;omega,by simp only;rw[bi,hms];omega,by simp only;rw[List.length_append];omega,by simp only;omega,by simp only;rw[hms];omega,?_,?_,by simp only;omega,by simp only;rw[hmsI];omega,by simp only;rw[hmsI];omega,by simp only;omega⟩,by simp only;omega,?_⟩
  ·simp only
   rcases hvs with rfl|⟨s,_,rfl⟩
   ·omega
   ·rw[List.length_append,List.length_singleton];omega
  ·simp only
   rcases hvs with rfl|⟨s,hs,rfl⟩
   ·exact i7
   ·intro w hw
    rcases List.mem_append.1 hw with h|h
    ·exact i7 w h
    ·rw[List.mem_singleton.1 h];exact hs
  ·rw[hrow]
   refine cJ [0,1,2,4] (by simp) (by decide) (by decide) (bn rfl (aZ _ _ _) (cC ?_ ?_ (bn rfl (iD _ _) (be rfl (dc _) bm)))) (by simp[below,ren,hwj])
   ·intro x hx
    rw[List.mem_singleton.1 hx];exact⟨by simp[below],kX (by simp),by simp,by simp,by simp,trivial⟩
   ·simp[bP,ren,aX]
 ·have hce:(decide (0<j)&&decide (0<lf))=false:=by
   by_cases h1:0<j
   ·have h2:¬0<lf:=fun h=>hc ⟨h1,h⟩
    simp[h2]
   ·simp[h1]
  have fin:BV b fns vs p (20*N) next left [] (.ret (.sl 3 5 0 out.length)) [rdO b q,.row 5 [[.ptr 0 2 0 0,slE 2 3 (aS fns),.p (ay vs),.p (.int .i64 nx),.p (.int .i64 lf)]],bF 3 (aS fns),.row 5 (smR out)]:=
   ⟨out,q,nx,lf,rfl,rfl,by omega,by omega,by omega,by omega,by omega,by omega,by omega,by omega⟩
  by_cases h1:0<j
  ·have h2:¬0<lf:=fun h=>hc ⟨h1,h⟩
   simp-implicitDefEqProofs[h1,h2]
   exact fin
  ·simp-implicitDefEqProofs[h1]
   exact fin
end Go.Proofs.YtiojgfhdcpppcaaDoor
namespace Go.Proofs.YtiojgfhdcpppcaaDoor
open Go Go.Aw
set_option maxRecDepth 100000
set_option maxHeartbeats 4000000
def K_spec_l3Gen_fn:AK:= .seq (.reg [oJ 6 (.alloc [(.p (.str [])),.nils,.nils])]) (.seq (.reg [oM 8 0,oJ 9 (.bsl 1 [(.p (.str []))] 3 [(0,1,(.c (.p (.str [97])))),(1,1,(.c (.p (.str [98])))),(2,1,(.c (.p (.str [99]))))]),oM 10 2,oJ 11 (.slS 1 (.t 9) none (some (.t 10))),oN 12 8,oF 13 2 12,oS 13 11]) (.seq (.reg [oM 14 0,oM 15 2,oJ 16 (.bin .sub (.t 15) (.c (.p (.int .i64 1)))),oN 17 14,oF 18 3 17,oS 18 16]) (.cut (.reg [oM 19 1,oJ 20 (.bsl 1 [(.p (.str []))] 0 []),oM 21 0,oN 22 21,oF 23 2 22,oL 24 23,oJ 25 (.app 1 16 (.t 20) (.t 24)),oJ 26 (.bld [(.p (.str [])),.nils,.nils] [(0,1,(.t 19)),(1,1,(.t 25))]),oJ 7 (.alloc [(.p (.str [])),.nils,.nils]),⟨none,none,.st 3 (.t 7) (.t 26)⟩]) (.seq (.reg [oM 27 0,oJ 28 (.call aK [(.t 27),(.c (.p (.int .i64 3)))]),oF 29 2 7,oS 29 28]) (.seq (.seq (.reg [oM 30 0,oN 31 30,oF 32 4 31,oL 33 32,oJ 34 (.bin .gtr (.t 33) (.c (.p (.int .i64 0)))),oM 35 34,⟨(some 36),some (35,true),.mov (.t 0)⟩,⟨(some 37),some (35,true),.nilck (.t 36)⟩,⟨(some 38),some (35,true),.fldA 0 (.t 37)⟩,⟨(some 39),some (35,true),.ld none (.t 38)⟩,⟨(some 40),some (35,true),.call ae [(.t 39),(.c (.p (.int .i64 4)))]⟩,⟨(some 41),some (35,true),.bin .gtr (.t 40) (.c (.p (.int .i64 0)))⟩,oJ 42 (.pick (.t 35) (.t 41) (.c (.p (.bool false))))]) (.cond (.t 42) (.seq (.reg [oM 43 0,oM 44 0,oN 45 44,oF 46 4 45,oL 47 46,oJ 48 (.bin .sub (.t 47) (.c (.p (.int .i64 1)))),oN 49 43,oF 50 4 49,oS 50 48]) (.reg [oF 51 2 7,oM 53 0,oL 52 51,oJ 54 (.call aL [(.t 53),(.c (.p (.int .i64 2)))]),⟨none,none,.chk none 51 52⟩,oJ 55 (.bslP 4 [(.p (.int .i64 0)),(.p (.int .i64 0)),(.p (.str [])),.nils] 1 [(0,4,(.t 54))]),oJ 56 (.bld [(.p (.int .i64 0)),(.p (.str [])),.nils,.nils,.nils] [(0,1,(.c (.p (.int .i64 7)))),(2,1,(.t 55))]),oJ 57 (.bslP 5 [(.p (.int .i64 0)),(.p (.str [])),.nils,.nils,.nils] 1 [(0,5,(.t 56))]),oJ 58 (.app 5 96 (.t 52) (.t 57)),oF 59 2 7,oS 59 58])) (.skip))) (.seq (.reg [oJ 60 (.ld (some 3) (.t 7)),⟨none,none,.st 3 (.t 6) (.t 60)⟩]) (.ret)))))))
theorem pH:K_spec_l3Gen_fn.whole=F_spec_l3Gen_fn.ak:=rfl
theorem sZ{h:List AO}{id:Nat}{out:List Sm}{m:Sm}{c:List AV}(e:h[id]?=some (.row 5 (smR out++[c])))(hc:∀(j:Nat) (q:PV) (a:AV),m.cs[j]?=some q→c[j]?=some a→View h a q):View h (.sl id 5 0 (out.length+1)) (smL (out++[m])):=by
 have hl:((out++[m]).map Sm.cs).length=out.length+1:=by simp
 have:=View.sl (h:=h) id 5 0 _ ((out++[m]).map Sm.cs) e (by rw[hl];simp[ep]) (fun x hx=>by obtain⟨b,_,rfl⟩:=List.mem_map.1 hx;exact b.cs_len) (fun i j e q e' a a1 a2 a3 a4=>?_)
 ·rwa[hl] at this
 rw[Nat.zero_add] at a3
 rw[List.map_append] at a1
 rcases Nat.lt_or_ge i out.length with hi|hi
 ·rw[List.getElem?_append_left (by simpa using hi),List.getElem?_map,List.getElem?_eq_getElem hi] at a1
  rw[List.getElem?_append_left (by simpa[ep] using hi),smR,List.getElem?_map,List.getElem?_eq_getElem hi] at a3
  cases a1;cases a3
  rw[List.getElem?_map,a2] at a4
  cases a4
  exact .p _
 ·rw[List.getElem?_append_right (by simpa using hi)] at a1
  rw[List.getElem?_append_right (by simpa[ep] using hi),ep] at a3
  rw[List.length_map] at a1
  cases hd:i-out.length with
  |zero=>
   rw[hd] at a1 a3
   cases a1;cases a3
   exact hc j q a a2 a4
  |succ n=>rw[hd] at a3;simp at a3
variable (G:aG)
theorem Bg{b:List Int}(hb:Byt b)(hl:b.length≤2000)(fns:List Fd)(hf:qD fns):xO G b fns 3:=
 td G hb hl fns hf (d:=2) (by omega) fun _=>td G hb hl fns hf (d:=1) (by omega) fun _=>td G hb hl fns hf (d:=0) (by omega) fun h=>absurd h (by omega)
def abcW:List (List UInt8):=[[97],[98],[99]]
def fnQ(p:Nat)(name:List UInt8)(np:Nat)(left:Int)(v:AV)(q:Nat)(vs':List (List UInt8))(next' left':Int):Prop:=
 ∃f:Fd,v= .agg (f.cs.map .p)∧f.name=name∧f.params=abcW.take np∧aC f.body≤40000500∧p≤q∧q≤p+40000500∧left-40000500≤left'∧left'≤left
theorem FU{b:List Int}(hb:Byt b)(hl:b.length≤2000){p:Nat}(hp:p≤90000000000)(fns:List Fd)(hf:qD fns)(vs:List (List UInt8))(next left:Int)(hl0: -1000000000≤left)(hl1:left≤1000000000)(name:List UInt8)(np:Nat)(hnp:np≤3):
 AC Tryd.prog G ee [.ptr 1 5 0 0,.p (.str name),.p (.int .i64 np)] (HG b p fns vs next left) (PG b fns (fnQ p name np left) []):=by
 refine iI G (AC.goK pu pH ?_)
 have hwn:IntKind.i64.wrap ((np:Int)-1)=(np:Int)-1:=ag (by omega) (by omega)
 have h3:(np:Int)≤3:=by omega
 simp-implicitDefEqProofs[K_spec_l3Gen_fn,F_spec_l3Gen_fn,HG,bP,hwn,h3,hnp]
 refine iu (am 61 [(0,.ptr 1 5 0 0),(6,.ptr 3 3 0 0),(7,.ptr 4 3 0 0)]) [rdO b p,.row 5 [bP fns (abcW.take np) ((np:Int)-1) left],bF 3 (aS fns),.row 3 [[.p (.str []),.nils,.nils]],.row 3 [[.p (.str name),.p (ay (abcW.take np)),.nils]]] ?_ ?_
 ·have hlen:(abcW.take np).length=np:=by simp[abcW];omega
  simp-implicitDefEqProofs[hnp,hlen]
  refine⟨⟨by omega,by omega⟩,?_⟩
  have hcutR:bx (abcW.take np)= .row 1 (List.take np [[AV.p (PV.str [97])],[AV.p (PV.str [98])],[AV.p (PV.str [99])]]):=by
   simp only[bx,List.map_take];rfl
  rw[←hcutR]
  refine Wk.trans (xK (h1:=[rdO b p,.row 5 [[.ptr 0 2 0 0,slE 2 3 (aS fns),.sl 4 1 0 np,.p (.int .i64 ((np:Int)-1)),.p (.int .i64 left)]],bF 3 (aS fns),.row 3 [[.p (.str []),.nils,.nils]],bx (abcW.take np),.dead,bx (abcW.take np),.row 3 [[.p (.str name),.sl 6 1 0 np,.nils]]])
   ⟨.inl rfl,.inl rfl,.inl rfl,.inl rfl,.inr ⟨1,_,np,rfl,hcutR⟩,.inl rfl,.inl rfl,.inl rfl,trivial⟩) ?_
  refine Wk.trans (cJ (l1:=[(0,.ptr 1 5 0 0),(6,.ptr 3 3 0 0),(7,.ptr 4 3 0 0)])
   (h1:=[rdO b p,.row 5 [[.ptr 0 2 0 0,slE 2 3 (aS fns),.sl 5 1 0 np,.p (.int .i64 ((np:Int)-1)),.p (.int .i64 left)]],bF 3 (aS fns),.row 3 [[.p (.str []),.nils,.nils]],.row 3 [[.p (.str name),.sl 6 1 0 np,.nils]],bx (abcW.take np),bx (abcW.take np)])
   [0,1,2,3,7,4,6] (by simp) (by decide) (by decide) (bn rfl (aZ _ _ _) (cC (by simp[below]) (by simp[ren,aX]) (bn rfl (iD _ _) (be rfl (by simp[below]) (cC (by simp[below]) (by simp[ren,aX]) (bn rfl (bk _) (bn rfl (bk _) bm))))))) (by simp[below,ren]))
   (gE 5 (by omega) (by simp) rfl (.same (aZ _ _ _) (.one (.keep (by simp[below]) (.keep (kX (by omega)) (.one ?_ (.keep (by simp) (.keep (by simp) .nil))))) (.same (iD _ _) (.same (by simp[okO,below]) (.one (.keep (by simp) (.one ?_ (.keep (by simp[below]) .nil))) (.nil _)))))) ?_)
  ·have:=dk (l:=abcW.take np) (id:=5) (h:=kf 5 [rdO b p,.row 5 [[.ptr 0 2 0 0,slE 2 3 (aS fns),.sl 5 1 0 np,.p (.int .i64 ((np:Int)-1)),.p (.int .i64 left)]],bF 3 (aS fns),.row 3 [[.p (.str []),.nils,.nils]],.row 3 [[.p (.str name),.sl 6 1 0 np,.nils]],bx (abcW.take np),bx (abcW.take np)]) rfl
   rwa[hlen] at this
  ·have:=dk (l:=abcW.take np) (id:=6) (h:=kf 5 [rdO b p,.row 5 [[.ptr 0 2 0 0,slE 2 3 (aS fns),.sl 5 1 0 np,.p (.int .i64 ((np:Int)-1)),.p (.int .i64 left)]],bF 3 (aS fns),.row 3 [[.p (.str []),.nils,.nils]],.row 3 [[.p (.str name),.sl 6 1 0 np,.nils]],bx (abcW.take np),bx (abcW.take np)]) rfl
   rwa[hlen] at this
  ·exact⟨.keep (by simp[below]) .nil,.keep (by simp[below]) .nil,.keep (by simp[below]) .nil,trivial⟩
 have hlen:(abcW.take np).length≤3:=by simp[abcW];omega
 have hw8:∀s∈abcW.take np,s.length≤8:=by
  intro s hs
  have:=List.mem_of_mem_take hs
  simp only[abcW,List.mem_cons,List.not_mem_nil,or_false] at this
  rcases this with rfl|rfl|rfl<;>simp
 have hPd:Pd 3=40000000:=rfl
 have hB:Bd (Pd 3) p (abcW.take np) ((np:Int)-1) left:=by rw[hPd];exact⟨by omega,by omega,hw8,by omega,by omega,by omega,by omega⟩
 simp-implicitDefEqProofs[bP]
 refine(ng G (Bg G hb hl fns hf hB) _).mono ?_
 rintro r h ⟨out,q,n2,l2,rfl,rfl,z1,z2,m1,m2,m3,m4,m5,m6⟩
 rw[hPd] at z1 m2 m4 m5
 simp-implicitDefEqProofs[aa,bP]
 have fin:∀(out:List Sm) (q:Nat) (l2:Int) (rest:List AO) (v:AV) (vc:AV) (vs':List (List UInt8)) (n2:Int),Fzs (.dead:: .dead:: .dead::rest) 3 [vc] [.p (ay vs')]→Fzs (.dead:: .dead:: .dead::rest) 3 [v] [.agg ((Fd.mk name (abcW.take np) out).cs.map .p)]→aC out≤40000500→p≤q→q≤p+40000500→left-40000500≤l2→l2≤left→
  DG b fns (fnQ p name np left) (.ret v) (rdO b q:: .row 5 [[.ptr 0 2 0 0,slE 2 3 (aS fns),vc,.p (.int .i64 n2),.p (.int .i64 l2)]]::bF 3 (aS fns)::rest):=fun out q l2 rest v vc vs' n2 h1 h2 h3 h4 h5 h6 h7=>
  ⟨_,rest,q,_,_,vs',n2,l2,rfl,rfl,h1,h2,⟨name,abcW.take np,out⟩,rfl,rfl,rfl,h3,h4,h5,h6,h7⟩
 by_cases hl2:0<l2
 ·simp-implicitDefEqProofs[hl2]
  refine(aT G b hb hl q (by omega) 4 _).mono ?_
  rintro r h ⟨k,rfl,rfl,_⟩
  simp-implicitDefEqProofs[aa]
  refine bc (fun hc=>?_) (fun hc=>?_)
  ·have hwl:IntKind.i64.wrap (l2-1)=l2-1:=ag (by omega) (by omega)
   simp-implicitDefEqProofs[hwl]
   have hShrt:od (abcW.take np):=⟨by omega,hw8⟩
   refine(ct G (jb G hb hl (p:=q+1) (by omega) fns hf (abcW.take np) hShrt n2 (l2-1) (d:=2) (by omega)) _ (by simp[below])).mono ?_
   rintro r h ⟨v,q2,vs2,n3,l3,rfl,rfl,⟨e,rfl,he⟩,h1,h2,hvs,rfl,rfl⟩
   subst hvs
   have hec:=e.cs_eq
   have hol:(smR out).length=out.length:=ep out
   simp-implicitDefEqProofs[aa,bP,hec,hol]
   refine⟨⟨by omega,by omega⟩,?_⟩
   have htk:List.take out.length (smR out)=smR out:=List.take_of_length_le (by omega)
   rw[htk]
   have hm:(Sm.mk 7 [] [e] [] []).cs=[.int .i64 7,.str [],.lst 4 [[.int .i64 e.op,.int .i64 e.n,.str e.name,exL e.kids]],.lst 5 [],.lst 5 []]:=by
    rw[Sm.cs_eq,←hec];rfl
   refine fin (out++[⟨7,[],[e],[],[]⟩]) q2 (l2-1) _ _ _ (abcW.take np) n3 (.keep (by simp) .nil) (.agg (.keep (by simp) (.keep (by simp) (.one (sZ rfl ?_) .nil))) .nil) (by simp[bi,aC,Sm.sz,aP];omega) (by omega) (by omega) (by omega) (by omega)
   intro j q a a1 a2
   rw[hm] at a1
   match j,a1,a2 with
   |0,a1,a2=>cases a1;cases a2;exact .p _
   |1,a1,a2=>cases a1;cases a2;exact .p _
   |2,a1,a2=>cases a1;cases a2;exact .p _
   |3,a1,a2=>cases a1;cases a2;exact View.e 0 5
   |4,a1,a2=>cases a1;cases a2;exact View.e 0 5
   |j+5,a1,a2=>simp at a1
  ·simp-implicitDefEqProofs[]
   exact fin out (q+1) l2 _ _ _ (abcW.take np) n2 (.keep (by simp) .nil) (.agg (.keep (by simp) (.keep (by simp) (.one (ic rfl) .nil))) .nil) (by omega) (by omega) (by omega) (by omega) (by omega)
 ·simp-implicitDefEqProofs[hl2]
  exact fin out q l2 _ _ _ (abcW.take np) n2 (.keep (by simp) .nil) (.agg (.keep (by simp) (.keep (by simp) (.one (ic rfl) .nil))) .nil) (by omega) (by omega) (by omega) (by omega) (by omega)
end Go.Proofs.YtiojgfhdcpppcaaDoor
namespace Go.Proofs.YtiojgfhdcpppcaaDoor
open Go Go.Aw
set_option maxRecDepth 100000
set_option maxHeartbeats 4000000
theorem qo{h:List AO}{s:List UInt8}{ps:List (List UInt8)}{bd:List Sm}{P B:AV}(hP:View h P (ay ps))(hB:View h B (smL bd)):∀(j:Nat) (q:PV) (x:AV),(Fd.mk s ps bd).cs[j]?=some q→[AV.p (.str s),P,B][j]?=some x→View h x q:=by
 intro j q x e1 e2
 match j,e1,e2 with
 |0,e1,e2=>cases e1;cases e2;exact .p _
 |1,e1,e2=>cases e1;cases e2;exact hP
 |2,e1,e2=>cases e1;cases e2;exact hB
 |j+3,e1,e2=>simp[Fd.cs] at e1
theorem nV{h:List AO}{id:Nat}{l:List Fd}(e:h[id]?=some (.row 3 (aS l))):View h (.sl id 3 0 l.length) (fdL l):=by
 have:=fW (h:=h) (id:=id) (sz:=3) (n:=l.length) (ls:=l.map Fd.cs) (by rw[e,aS];simp) (by simp) (fun x hx=>by obtain⟨b,_,rfl⟩:=List.mem_map.1 hx;exact b.cs_len)
 exact this
theorem vh(a b:List Fd):aS (a++b)=aS a++aS b:=by simp[aS]
theorem qB(a:List Fd):(aS a).length=a.length:=by simp[aS]
theorem gg(a b:List Fd):aN (a++b)=aN a+aN b:=by simp[aN]
def Ek:List Fd:=[⟨[109],[],[⟨3,[],[⟨1,1,[],[]⟩],[],[]⟩]⟩]
theorem xk:br Ek=true:=by decide
theorem xx(k:Nat)(hk:k≤3):(abcW.take k).length+((abcW.take k).map List.length).sum≤6:=by
 have h:k=0∨k=1∨k=2∨k=3:=by omega
 rcases h with rfl|rfl|rfl|rfl<;>decide
variable (G:aG)
structure PgS where (j:Nat) (fns:List Fd) (q:Nat) (vs:List (List UInt8)) (next left:Int)
def Hv(b:List Int)(p n:Nat)(x:ARes)(h:List AO):Prop:=∃(l:List Fd) (q:Nat),x= .ret (.agg [.p (fdL l)])∧h=[rdO b q]∧br l=true∧aN l≤200000000∧p≤q∧q≤p+n
def HK(b:List Int)(p n:Nat)(x:ARes)(h:List AO):Prop:=∃(l:List Fd) (q:Nat) (v:AV) (rest:List AO),x= .ret (.agg [v])∧h=rdO b q::rest∧View (kf 1 h) v (fdL l)∧br l=true∧aN l≤200000000∧p≤q∧q≤p+n
theorem vK{b:List Int}(hb:Byt b)(hl:b.length≤2000){p:Nat}(hp:p≤10000000000):AC Tryd.prog G bE [.ptr 0 2 0 0] [rdO b p] (Hv b p 200000000):=by
 refine AC.frz (R:=HK b p 200000000) ?_ 1 (by simp) (fun t v h ⟨_,_,_,_,e,_⟩=>by cases e) ?_
 ·refine AC.go rV ?_
  simp-implicitDefEqProofs[lD]
  refine(iJ G hb hl (p:=p) (by omega) [14,20,8,26] (k:=2) (by simp) (by simp) (by omega) rfl rfl).mono ?_
  rintro r h ⟨L0,hL0,rfl,rfl⟩
  have hL:0≤L0∧L0≤26:=by simp at hL0;omega
  simp-implicitDefEqProofs[aa]
  refine(iJ G hb hl (p:=p+1) (by omega) [0,1,1,2] (k:=4) (by simp) (by simp) (by omega) rfl rfl).mono ?_
  rintro r h ⟨J0,hJ0,rfl,rfl⟩
  obtain⟨J,rfl,hJ⟩:∃J:Nat,J0=J∧J≤2:=⟨J0.toNat,by simp at hJ0;omega,by simp at hJ0;omega⟩
  simp-implicitDefEqProofs[aa]
  refine aR (fun s:PgS=>am 69 [(0,.ptr 0 2 0 0),(2,.ptr 3 1 0 0),(3,.ptr 1 5 0 0),(4,.p (.int .i64 s.j))])
   (fun s=>[rdO b s.q,.row 5 [bP s.fns s.vs s.next s.left],bF 3 (aS s.fns),.row 1 [[.nils]]])
   (fun s=>s.j+s.fns.length≤2∧qD s.fns∧aN s.fns≤s.fns.length*40000600∧p≤s.q∧s.q≤p+2+s.fns.length*40000600∧L0-s.fns.length*40000600≤s.left∧s.left≤L0)
   (fun s=>s.j) ⟨J,[],p+1+1,[],0,L0⟩ ⟨by simp only[List.length_nil];omega,⟨by simp,by simp⟩,by simp[aN],by simp only;omega,by simp,by simp,by simp⟩ ?_ ?_
  ·refine Wk.trans (cJ (l1:=[(0,.ptr 0 2 0 0),(2,.ptr 3 1 0 0),(3,.ptr 1 5 0 0),(4,.p (.int .i64 J))])
    (h1:=[rdO b (p+1+1),.row 5 [[.ptr 0 2 0 0,.nils,.nils,.p (.int .i64 0),.p (.int .i64 L0)]],.dead,.row 1 [[.nils]]])
    [0,3,2,1] (by simp) (by decide) (by decide) (bn rfl (aZ _ _ _) (cC (by simp[below]) (by simp[ren,aX]) (bA (by simp) (be rfl (by simp[below]) bm)))) (by simp[below,ren]))
    (gE 4 (by omega) (by simp) rfl (.same (aZ _ _ _) (.one (.keep (by simp[below]) (.keep (by simp[below,aS,slE]) (.one (View.nils 1) (.keep (by simp) (.keep (by simp) .nil))))) (.dead (.same (by simp[okO,below]) (.nil _))))) ?_)
   exact⟨.keep (by simp[below]) .nil,.keep (by simp[below]) .nil,.keep (by simp[below]) .nil,.keep (by simp[below]) .nil,trivial⟩
  rintro⟨j,fns,q,vs,nx,lf⟩ ⟨i1,i2,i3,i4,i5,i6,i7⟩
  simp only at i1 i2 i3 i4 i5 i6 i7
  simp-implicitDefEqProofs[bP]
  by_cases hj:0<j
  ·have hfl:fns.length<3:=by omega
   have hcl:(aS fns).length=fns.length:=qB fns
   obtain⟨nm,hget,hnm⟩:∃nm:List UInt8,([[PV.str [102]],[PV.str [103]],[PV.str [104]]]:List (List PV))[fns.length]?=some [.str nm]∧nm.length≤8:=by
    have h3:fns.length=0∨fns.length=1∨fns.length=2:=by omega
    rcases h3 with h|h|h<;>rw[h]
    ·exact⟨[102],rfl,by simp⟩
    ·exact⟨[103],rfl,by simp⟩
    ·exact⟨[104],rfl,by simp⟩
   simp-implicitDefEqProofs[hj,hcl,hget]
   refine(aT G b hb hl q (by omega) 3 _).mono ?_
   rintro r h ⟨k,rfl,rfl,hk⟩
   have hk3:k≤3:=by omega
   simp-implicitDefEqProofs[aa,hcl,hget]
   refine(ct G (FU G hb hl (p:=q+1) (by omega) fns i2 vs nx lf (by omega) (by omega) nm k hk3) _ (by simp[below])).mono ?_
   rintro r h ⟨v,q2,vs2,n2,l2,rfl,rfl,f,rfl,hf1,hf2,z1,z2,z3,z4,z5⟩
   have hcs:=f.cs_len
   have hcf:f.cs=[.str f.name,ay f.params,smL f.body]:=rfl
   simp-implicitDefEqProofs[aa,bP,hcf]
   have hfs:f.sz≤40000600:=by
    have h1:f.sz=1+f.name.length+(f.params.length+(f.params.map List.length).sum)+aC f.body:=rfl
    have h2:=xx k hk3
    rw[←hf2] at h2
    rw[hf1] at h1
    omega
   have hwj:IntKind.i64.wrap ((j:Int)-1)=((j-1:Nat):Int):=by rw[ag (by omega) (by omega)];omega
   have hfp:f.params.length≤3:=by rw[hf2];simp[abcW];omega
   have hrow:aS fns++[[AV.p (.str f.name),.p (ay f.params),.p (smL f.body)]]=aS (fns++[f]):=by rw[vh];rfl
   have hne:aS (fns++[f])≠[]:=by simp[aS]
   have hll:(aS fns).length+1=(aS (fns++[f])).length:=by simp[aS]
   rw[hrow,hll]
   refine⟨⟨by rw[←hll,hcl];omega,by omega⟩,⟨j-1,fns++[f],q2,vs2,n2,l2⟩,⟨by simp;omega,⟨by simp;omega,?_⟩,by simp only[gg,List.length_append];simp[aN] at*;omega,by simp only;omega,by simp;omega,by simp;omega,by simp only;omega⟩,by simp only;omega,?_⟩
   ·intro x hx
    rcases List.mem_append.1 hx with h|h
    ·exact i2.2 x h
    ·rw[List.mem_singleton.1 h,hf1];exact⟨hnm,hfp⟩
   ·rw[cS hne,dI hne]
    refine cJ [0,1,5,3] (by simp) (by decide) (by decide) (bn rfl (aZ _ _ _) (cC (by simp[below]) (by simp[ren,aX]) (be rfl (ow _) (be rfl (by simp[below]) bm)))) (by simp[below,ren,hwj])
  ·simp-implicitDefEqProofs[hj]
   refine(iJ G hb hl (p:=q) (by omega) [0,1,2,1] (k:=4) (by simp) (by simp) (by omega) rfl rfl).mono ?_
   rintro r h ⟨N0,hN0,rfl,rfl⟩
   obtain⟨np,rfl,hnp⟩:∃J:Nat,N0=J∧J≤2:=⟨N0.toNat,by simp at hN0;omega,by simp at hN0;omega⟩
   simp-implicitDefEqProofs[aa]
   refine(ct G (FU G hb hl (p:=q+1) (by omega) fns i2 vs nx lf (by omega) (by omega) [109] np (by omega)) _ (by simp[below])).mono ?_
   rintro r h ⟨v,q2,vs2,n2,l2,rfl,rfl,f,rfl,hf1,hf2,z1,z2,z3,z4,z5⟩
   have hcf:f.cs=[.str f.name,ay f.params,smL f.body]:=rfl
   have hcl:(aS fns).length=fns.length:=qB fns
   have hfs:f.sz≤40000600:=by
    have h1:f.sz=1+f.name.length+(f.params.length+(f.params.map List.length).sum)+aC f.body:=rfl
    have h2:=xx np (by omega)
    rw[←hf2] at h2
    rw[hf1] at h1
    simp at h1
    omega
   by_cases hfe:fns=[]
   ·subst hfe
    have h0:aS []=[]:=rfl
    rw[h0]
    simp-implicitDefEqProofs[aa,bP,hcf,h0,to,qr]
    have hrow:[[AV.p (.str f.name),.p (ay f.params),.p (smL f.body)]]=aS [f]:=rfl
    rw[hrow]
    have vw:∀h:List AO,h[8]?=some (.row 3 (aS [f]))→View h (.sl 8 3 0 1) (fdL [f]):=fun h e=>nV (l:=[f]) e
    refine((gY G [f] (by simp only[aN,List.map_cons,List.map_nil,List.sum_cons,List.sum_nil] at*;omega)).lend (.agg (.one (vw _ rfl) .nil) .nil) rfl).mono ?_
    rintro r h ⟨rfl,rfl⟩
    simp-implicitDefEqProofs[aa]
    by_cases hok:br [f]=true
    ·simp-implicitDefEqProofs[hok]
     exact⟨[f],q2,_,_,rfl,rfl,vw _ rfl,hok,by simp only[aN,List.map_cons,List.map_nil,List.sum_cons,List.sum_nil] at*;omega,by omega,by omega⟩
    ·have hok':br [f]=false:=by simpa using hok
     simp-implicitDefEqProofs[hok']
     exact⟨Ek,q2,_,_,rfl,rfl,bg (p0:=(Fd.mk [109] [] [⟨3,[],[⟨1,1,[],[]⟩],[],[]⟩]).cs) rfl rfl (qo (View.nils 1) (bg (p0:=(Sm.mk 3 [] [⟨1,1,[],[]⟩] [] []).cs) rfl (Sm.cs_len _) (bC (bg (p0:=(Ex.mk 1 1 [] []).cs) rfl (Ex.cs_len _) (dV (View.nils 4))) (View.nils 5) (View.nils 5)))),xk,by decide,by omega,by omega⟩
   ·have h0:aS fns≠[]:=fun h=>hfe (List.map_eq_nil_iff.1 h)
    simp only[bP,dI h0,cS h0]
    simp-implicitDefEqProofs[aa,hcf,hcl]
    refine⟨⟨by omega,by omega⟩,⟨by omega,by omega⟩,?_⟩
    have hrow:List.take fns.length (List.take fns.length (aS fns))++[[AV.p (.str f.name),.p (ay f.params),.p (smL f.body)]]=aS (fns++[f]):=by
     rw[List.take_of_length_le (by rw[List.length_take];omega),List.take_of_length_le (by omega),vh];rfl
    rw[hrow]
    have vw:∀h:List AO,h[8]?=some (.row 3 (aS (fns++[f])))→View h (.sl 8 3 0 (fns.length+1)) (fdL (fns++[f])):=fun h e=>by
     have:=nV e
     rwa[List.length_append,List.length_singleton] at this
    refine((gY G (fns++[f]) (by rw[gg];simp only[aN,List.map_cons,List.map_nil,List.sum_cons,List.sum_nil] at*;omega)).lend (.agg (.one (vw _ rfl) .nil) .nil) rfl).mono ?_
    rintro r h ⟨rfl,rfl⟩
    simp-implicitDefEqProofs[aa]
    by_cases hok:br (fns++[f])=true
    ·simp-implicitDefEqProofs[hok]
     exact⟨fns++[f],q2,_,_,rfl,rfl,vw _ rfl,hok,by rw[gg];simp only[aN,List.map_cons,List.map_nil,List.sum_cons,List.sum_nil] at*;omega,by omega,by omega⟩
    ·have hok':br (fns++[f])=false:=by simpa using hok
     simp-implicitDefEqProofs[hok']
     exact⟨Ek,q2,_,_,rfl,rfl,bg (p0:=(Fd.mk [109] [] [⟨3,[],[⟨1,1,[],[]⟩],[],[]⟩]).cs) rfl rfl (qo (View.nils 1) (bg (p0:=(Sm.mk 3 [] [⟨1,1,[],[]⟩] [] []).cs) rfl (Sm.cs_len _) (bC (bg (p0:=(Ex.mk 1 1 [] []).cs) rfl (Ex.cs_len _) (dV (View.nils 4))) (View.nils 5) (View.nils 5)))),xk,by decide,by omega,by omega⟩
 ·rintro v h ⟨l,q,v0,rest,e,rfl,hv,h1,h2,h3,h4⟩
  cases e
  exact⟨_,[rdO b q],by simp,rfl,.agg (.one hv .nil) .nil,.same (aZ _ _ _) (.nil _),l,q,rfl,rfl,h1,h2,h3,h4⟩
end Go.Proofs.YtiojgfhdcpppcaaDoor
namespace Go.Proofs.YtiojgfhdcpppcaaDoor
open Go Go.Aw
set_option maxRecDepth 100000
theorem eD{s:Bool}{h:List AO}{vs:List AV}{q:PV}{I:List Nat}(H:OwnL s h vs [q] I):∃v,vs=[v]:=by
 have:=H.len
 match vs,this with
 |[v],_=>exact⟨v,rfl⟩
theorem Ch{s:Bool}{h:List AO}{vs:List AV}{q r:PV}{I:List Nat}(H:OwnL s h vs [q,r] I):∃a b,vs=[a,b]:=by
 have:=H.len
 match vs,this with
 |[a,b],_=>exact⟨a,b,rfl⟩
theorem yM{s:Bool}{h:List AO}{vs:List AV}{q r t:PV}{I:List Nat}(H:OwnL s h vs [q,r,t] I):∃a b c,vs=[a,b,c]:=by
 have:=H.len
 match vs,this with
 |[a,b,c],_=>exact⟨a,b,c,rfl⟩
theorem wL{s:Bool}{h:List AO}{vs:List AV}{e:Ex}{I:List Nat}(H:OwnL s h vs e.cs I):∃K,vs=[.p (.int .i64 e.op),.p (.int .i64 e.n),.p (.str e.name),K]∧OwnL s h [K] [exL e.kids] I:=by
 rw[e.cs_eq] at H
 cases H with
 |p _ _ H=>
  cases H with
  |p _ _ H=>
   cases H with
   |p _ _ H=>
    obtain⟨v,rfl⟩:=eD H
    exact⟨v,rfl,H⟩
theorem AG{s:Bool}{h:List AO}{o n:Int}{w:List UInt8}{k:List Ex}{K:AV}{I:List Nat}(H:OwnL s h [K] [exL k] I):OwnL s h [.p (.int .i64 o),.p (.int .i64 n),.p (.str w),K] (Ex.mk o n w k).cs I:=by
 rw[Ex.cs_eq]
 exact .p _ (fun _=>rfl) (.p _ (fun _=>rfl) (.p _ (fun _=>rfl) H))
theorem Ei{s:Bool}{h:List AO}{vs:List AV}{e:Sm}{I:List Nat}(H:OwnL s h vs e.cs I):∃A B E I1 I2 I3,vs=[.p (.int .i64 e.op),.p (.str e.name),A,B,E]∧I=I1++(I2++I3)∧OwnL s h [A] [exL e.args] I1∧OwnL s h [B] [smL e.body] I2∧OwnL s h [E] [smL e.els] I3:=by
 rw[e.cs_eq] at H
 cases H with
 |p _ _ H=>
  cases H with
  |p _ _ H=>
   obtain⟨A,B,E,rfl⟩:=yM H
   obtain⟨I1,I',rfl,h1,H⟩:=H.one
   obtain⟨I2,I3,rfl,h2,h3⟩:=H.one
   exact⟨A,B,E,I1,I2,I3,rfl,rfl,h1,h2,h3⟩
theorem Ee{s:Bool}{h:List AO}{o:Int}{w:List UInt8}{a:List Ex}{b e:List Sm}{A B E:AV}{I1 I2 I3:List Nat}(h1:OwnL s h [A] [exL a] I1)(h2:OwnL s h [B] [smL b] I2)(h3:OwnL s h [E] [smL e] I3):
 OwnL s h [.p (.int .i64 o),.p (.str w),A,B,E] (Sm.mk o w a b e).cs (I1++(I2++I3)):=by
 rw[Sm.cs_eq]
 exact .p _ (fun _=>rfl) (.p _ (fun _=>rfl) (h1.app (h2.app h3)))
theorem Eb{s:Bool}{h:List AO}{vs:List AV}{f:Fd}{I:List Nat}(H:OwnL s h vs f.cs I):∃A B I1 I2,vs=[.p (.str f.name),A,B]∧I=I1++I2∧OwnL s h [A] [ay f.params] I1∧OwnL s h [B] [smL f.body] I2:=by
 rw[show f.cs=[.str f.name,ay f.params,smL f.body] from rfl] at H
 cases H with
 |p _ _ H=>
  obtain⟨A,B,rfl⟩:=Ch H
  obtain⟨I1,I2,rfl,h1,H⟩:=H.one
  exact⟨A,B,I1,I2,rfl,rfl,h1,H⟩
theorem mB{s:Bool}{h:List AO}{w:List UInt8}{ps:List (List UInt8)}{b:List Sm}{A B:AV}{I1 I2:List Nat}(h1:OwnL s h [A] [ay ps] I1)(h2:OwnL s h [B] [smL b] I2):OwnL s h [.p (.str w),A,B] (Fd.mk w ps b).cs (I1++I2):=
 .p _ (fun _=>rfl) (h1.app h2)
end Go.Proofs.YtiojgfhdcpppcaaDoor
namespace Go.Proofs.YtiojgfhdcpppcaaDoor
open Go Go.Aw
set_option maxRecDepth 100000
set_option maxHeartbeats 4000000
variable (G:aG)
theorem sC{hF:List AO}{n:Nat}{o k:Int}{w:List UInt8}{ks:List Ex}{K:AV}(hk:View hF K (exL ks)):Fzs hF n [.agg [.p (.int .i64 o),.p (.int .i64 k),.p (.str w),K]] [.agg ((Ex.mk o k w ks).cs.map .p)]:=by
 rw[Ex.cs_eq]
 exact .agg (.keep (by simp) (.keep (by simp) (.keep (by simp) (.one hk .nil)))) .nil
def BY(h:List AO)(kids:List Ex)(K:AV):Prop:=(K= .nils∧kids=[])∨∃id rows hX,K= .sl (id+1) 4 0 kids.length∧kids≠[]∧h[id+1]?=some (.row 4 rows)∧hX.length=h.length∧(∀(i:Nat) o,hX[i]?=some o→o.live→h[i]?=some o)∧¬Live hX 0∧¬Live hX (id+1)∧
 rows.length=kids.length∧∀(j:Nat) (e e1:List AV),rows[j]?=some e→(exR kids)[j]?=some e1→Fzs hX h.length e e1
def DT(b:List Int)(Q:Ex→Nat→Prop)(x:ARes)(h:List AO):Prop:=∃(e:Ex) (q:Nat) (rest:List AO) (K:AV),x= .ret (.agg [.p (.int .i64 e.op),.p (.int .i64 e.n),.p (.str e.name),K])∧h=rdO b q::rest∧BY h e.kids K∧Q e q
def EN(b:List Int)(Q:Ex→Nat→Prop)(x:ARes)(h:List AO):Prop:=∃(e:Ex) (q:Nat),x= .ret (.agg [.p (.int .i64 e.op),.p (.int .i64 e.n),.p (.str e.name),slE 1 4 (exR e.kids)])∧h=[rdO b q,bF 4 (exR e.kids)]∧Q e q
def EoQ(p n m:Nat)(e:Ex)(q:Nat):Prop:=e.sz≤n∧p≤q∧q≤p+m
theorem ve{hF:List AO}{n:Nat}:∀h:List AO,FzO hF n h (List.replicate h.length .dead)
 |[]=> .nil _
 |o::r=>by rw[List.length_cons,List.replicate_succ];exact .dead (ve r)
theorem uC{hF:List AO}{n sz:Nat}{es es1:List (List AV)}(hl:es.length=es1.length)(hv:∀(j:Nat) (e e1:List AV),es[j]?=some e→es1[j]?=some e1→Fzs hF n e e1):∀(h:List AO) (id:Nat),h[id]?=some (.row sz es)→FzO hF n h ((List.replicate h.length .dead).set id (.row sz es1))
 |[],id,e=>by simp at e
 |o::r,0,e=>by
  cases e
  rw[List.length_cons,List.replicate_succ,List.set_cons_zero]
  exact .rows hl hv (ve r)
 |o::r,id+1,e=>by
  rw[List.length_cons,List.replicate_succ,List.set_cons_succ]
  exact .dead (uC hl hv r id (by simpa using e))
theorem um{f:FuncId}{args:List AV}{b:List Int}{p:Nat}{Q:Ex→Nat→Prop}(H:AC Tryd.prog G f args [rdO b p] (DT b Q)):AC Tryd.prog G f args [rdO b p] (EN b Q):=by
 refine H.wk (fun t v h ⟨_,_,_,_,e,_⟩=>by cases e) ?_
 rintro v h ⟨e,q,rest,K,ev,rfl,hk,hq⟩
 cases ev
 rcases hk with⟨rfl,hk⟩|⟨id,rows,hX,rfl,hne,he,x1,x2,x3,x4,x5,x6⟩
 ·refine⟨_,_,?_,e,q,rfl,rfl,hq⟩
  have h0:exR e.kids=[]:=by rw[hk];rfl
  rw[h0,to,qr]
  exact Wk.ofL [0,0] (by simp) (by simp) (by simp[rdO,eF]) (by simp[below,ah,ren,aX]) (bn rfl (aZ _ _ _) (bA (by simp) bm))
 ·have hr:exR e.kids≠[]:=fun h=>hne (List.map_eq_nil_iff.1 h)
  have hrl:(exR e.kids).length=e.kids.length:=by simp[exR]
  rw[List.getElem?_cons_succ] at he
  have hid:id<rest.length:=(List.getElem?_eq_some_iff.1 he).1
  refine⟨.agg [.p (.int .i64 e.op),.p (.int .i64 e.n),.p (.str e.name),slE 1 4 (exR e.kids)],[rdO b q,bF 4 (exR e.kids)],?_,e,q,rfl,rfl,hq⟩
  rw[cS hr,dI hr,hrl]
  refine Wk.trans (ts1:=[.agg [.p (.int .i64 e.op),.p (.int .i64 e.n),.p (.str e.name),.sl (id+1) 4 0 e.kids.length]]) (h1:=rdO b q::(List.replicate rest.length .dead).set id (.row 4 (exR e.kids))) (xF (hX:=hX) (by simp) x1 x2 (fun i ⟨o,e1,l1⟩ ⟨o2,e2,l2⟩=>?_) (by simp) rfl (fun i u hi=>?_) (.same (aZ _ _ _) (uC (by rw[hrl];exact x5) x6 rest id he))) ?_
  ·cases i with
   |zero=>exact x3 ⟨o,e1,l1⟩
   |succ i=>
    by_cases hi:i=id
    ·subst hi;exact x4 ⟨o,e1,l1⟩
    ·rw[List.getElem?_cons_succ,List.getElem?_set_ne (Ne.symm hi),List.getElem?_replicate] at e2
     split at e2
     ·cases e2;exact l2
     ·cases e2
  ·cases i with
   |zero=>cases hi;exact .inr ⟨_,rfl,fc (by simp[below,ah];exact hid)⟩
   |succ i=>simp at hi
  ·refine Wk.of [0,id+1] (by simp) (by simp) (by simp) (by simp[below,ah,ren,aX]) (bn rfl (aZ _ _ _) (be ?_ (cX _) bm))
   rw[List.getElem?_cons_succ,List.getElem?_set_self (by simpa using hid)]
theorem pL{f:FuncId}{args:List AV}{b:List Int}{p:Nat}{Q:Ex→Nat→Prop}(H:AC Tryd.prog G f args [rdO b p] (EN b Q))(rest:List AO)(ha:ah 1 args):
 AC Tryd.prog G f args (rdO b p::rest) fun x h=>∃(e:Ex) (q:Nat),x= .ret (.agg [.p (.int .i64 e.op),.p (.int .i64 e.n),.p (.str e.name),slE (rest.length+1) 4 (exR e.kids)])∧h=rdO b q::(rest++[bF 4 (exR e.kids)])∧Q e q:=by
 refine(H.frame (h:=rdO b p::rest) [0] (by simp) (uh (n:=1) ha) (bn rfl (aZ _ _ _) bm)).mono ?_
 rintro x h ⟨x0,h0,⟨e,q,rfl,rfl,hq⟩,hl,rfl,rfl⟩
 have hp:∀σ,eC σ (bF 4 (exR e.kids))=bF 4 (exR e.kids):=fun σ=>by
  unfold bF
  split
  ·rfl
  ·simp only[eC]
   rw[List.map_congr_left (g:=id) fun x hx=>cN _ x (cX _ x hx)];simp
 have hp2:∀σ,eC σ (rdO b q)=rdO b q:=fun σ=>by simp[rdO,eC,aX,ren]
 refine⟨e,q,?_,?_,hq⟩
 ·simp[rc,ren,aX]
 ·have hl2:([rdO b q,bF 4 (exR e.kids)]:List AO).length-[rdO b p].length=1:=rfl
  rw[hl2]
  simp only[List.length_cons,List.length_nil,Nat.zero_add,List.take_succ_cons,List.take_zero,List.map_cons,List.map_nil,hp2,List.drop_succ_cons,List.drop_zero,mrg,List.set_cons_zero,List.cons_append,hp]
def LfQ(p:Nat)(v:AV)(q:Nat):Prop:=(∃(o n:Int) (s:List UInt8),v= .agg [.p (.int .i64 o),.p (.int .i64 n),.p (.str s),.nils]∧s.length≤8)∧p≤q∧q≤p+2
theorem yu{b:List Int}(hb:Byt b)(hl:b.length≤2000){p:Nat}(hp:p≤1000000000000)(names:List (List UInt8))(hn:od names):AC Tryd.prog G cG [.ptr 0 2 0 0,.p (ay names)] [rdO b p] fun x h=>∃v q,x= .ret v∧h=[rdO b q]∧LfQ p v q:=by
 refine jF G (AC.go lR ?_)
 have hsl:ay names= .lst 1 (names.map fun w=>[.str w]):=rfl
 have fin1:∀(o n:Int) (s:List UInt8) (q:Nat) (rest:List AO),p≤q→q≤p+2→s.length≤8→DP b (LfQ p) (.ret (.agg [.p (.int .i64 o),.p (.int .i64 n),.p (.str s),.nils])) (rdO b q::rest):=fun o n s q rest h1 h2 hs=>
  ⟨_,rest,q,_,rfl,rfl,fc (by simp),⟨o,n,s,rfl,hs⟩,h1,h2⟩
 have num:∀(q:Nat) (h:List AO),q≤1000000000001→h[0]?=some (rdO b q)→h[2]?=some (tU [0,1,2,3,5,7,15,16,100,255])→_:=fun q h hq h0 h1=>iJ G hb hl (p:=q) (by omega) [0,1,2,3,5,7,15,16,100,255] (h:=h) (k:=2) (by simp) (by simp) (by omega) h0 h1
 by_cases hne:names=[]
 ·subst hne
  have hs0:ay []= .lst 1 []:=rfl
  simp-implicitDefEqProofs[eb,hs0]
  refine(num p _ (by omega) rfl rfl).mono ?_
  rintro r h ⟨n,_,rfl,rfl⟩
  simp-implicitDefEqProofs[aa]
  exact fin1 _ _ _ _ _ (by omega) (by omega) (by simp)
 ·have hlen:¬names.length=0:=fun h=>hne (List.eq_nil_of_length_eq_zero h)
  simp-implicitDefEqProofs[eb,hsl,hne]
  refine(aT G b hb hl p (by omega) 3 _).mono ?_
  rintro r h ⟨k,rfl,rfl,_⟩
  simp-implicitDefEqProofs[aa]
  refine bc (fun hc=>?_) (fun hc=>?_)
  ·simp-implicitDefEqProofs[]
   refine(num (p+1) _ (by omega) rfl rfl).mono ?_
   rintro r h ⟨n,_,rfl,rfl⟩
   simp-implicitDefEqProofs[aa]
   exact fin1 _ _ _ _ _ (by omega) (by omega) (by simp)
  ·simp-implicitDefEqProofs[]
   rw[←hsl]
   refine(xh G hb hl (by omega) names hne (by have:=hn.1;omega) _).mono ?_
   rintro r h ⟨s,hs,rfl,rfl⟩
   have:=hn.2 s hs
   simp-implicitDefEqProofs[aa]
   exact fin1 _ _ _ _ _ (by omega) (by omega) this
theorem yj{b:List Int}(hb:Byt b)(hl:b.length≤2000)(names:List (List UInt8))(hn:od names)(d:Nat)(hd:d+1≤20){p:Nat}(hp:p+6*3^(d+1)≤1000000000000):AC Tryd.prog G aQ [.ptr 0 2 0 0,.p (ay names),.p (.int .i64 ((d+1:Nat):Int))] [rdO b p] (EN b (EoQ p (10*3^(d+1)) (6*3^(d+1)))):=by
 have hpow:3^(d+1)=3*3^d:=by rw[Nat.pow_succ];omega
 have h1p:1≤3^d:=Nat.one_le_pow _ _ (by omega)
 have ih:=fun{p:Nat} (hp:p+6*3^d≤1000000000000)=>qT G hb hl names hn d (by omega) (p:=p) hp
 rw[hpow] at hp⊢
 generalize 3^d=t at*
 have hw:IntKind.i64.wrap (d:Int)=(d:Int):=ag (by omega) (by omega)
 have leaf:∀(q:Nat) (rest:List AO),p≤q→q≤p+3→AC Tryd.prog G cG [.ptr 0 2 0 0,.p (ay names)] (rdO b q::rest) fun x h=>∃v q',x= .ret v∧h=rdO b q'::rest∧LfQ q v q':=fun q rest _ _=>gq G (yu G hb hl (by omega) names hn) rest (by simp[below])
 have sub:∀(q:Nat) (rest:List AO),p≤q→q≤p+6+6*t→AC Tryd.prog G aQ [.ptr 0 2 0 0,.p (ay names),.p (.int .i64 d)] (rdO b q::rest) fun x h=>∃v q',x= .ret v∧h=rdO b q'::rest∧ExQ q (10*t) (6*t) v q':=fun q rest _ _=>gq G (ih (by omega)) rest (by simp[below])
 refine um G (AC.go iQ ?_)
 have leafCase:∀(o n:Int) (s:List UInt8) (q:Nat) (rest:List AO),s.length≤8→p≤q→q≤p+5→DT b (EoQ p (10*(3*t)) (6*(3*t))) (.ret (.agg [.p (.int .i64 o),.p (.int .i64 n),.p (.str s),.nils])) (rdO b q::rest):=fun o n s q rest h1 h2 h3=>
  ⟨⟨o,n,s,[]⟩,q,rest,_,rfl,rfl,.inl ⟨rfl,rfl⟩,by simp[Ex.sz,aP];omega,h2,by omega⟩
 have top:∀(kids:List Ex) (h:List AO) (k:Nat),h[k+1]?=some (.row 4 (exR kids))→kids≠[]→BY h kids (.sl (k+1) 4 0 kids.length):=fun kids h k hk hne=>
  .inr ⟨k,exR kids,List.replicate h.length .dead,rfl,hne,hk,by simp,fun i o e l=>(by rw[List.getElem?_replicate] at e;split at e<;>cases e;exact l.elim),fun⟨o,e,l⟩=>(by rw[List.getElem?_replicate] at e;split at e<;>cases e;exact l.elim),fun⟨o,e,l⟩=>(by rw[List.getElem?_replicate] at e;split at e<;>cases e;exact l.elim),by simp[exR],fun j e e1 h1 h2=>(by rw[h1] at h2;cases h2;exact fc (aW (Nat.zero_le _) _ (cX _ e (List.mem_of_getElem? h1))))⟩
 have bin:∀(o:Int) (e1 e2:Ex) (q:Nat) (rest:List AO) (k:Nat),(rdO b q::rest)[k+1]?=some (.row 4 [e1.cs.map .p,e2.cs.map .p])→e1.sz≤10*t→e2.sz≤10*t→p≤q→q≤p+6*(3*t)→DT b (EoQ p (10*(3*t)) (6*(3*t))) (.ret (.agg [.p (.int .i64 o),.p (.int .i64 0),.p (.str []),.sl (k+1) 4 0 2])) (rdO b q::rest):=fun o e1 e2 q rest k hk h1 h2 h3 h4=>
  ⟨⟨o,0,[],[e1,e2]⟩,q,rest,_,rfl,rfl,top [e1,e2] _ k hk (by simp),by simp[Ex.sz,aP];omega,h3,h4⟩
 have una:∀(o:Int) (e1:Ex) (q:Nat) (rest:List AO) (k:Nat),(rdO b q::rest)[k+1]?=some (.row 4 [e1.cs.map .p])→e1.sz≤10*t→p≤q→q≤p+6*(3*t)→DT b (EoQ p (10*(3*t)) (6*(3*t))) (.ret (.agg [.p (.int .i64 o),.p (.int .i64 0),.p (.str []),.sl (k+1) 4 0 1])) (rdO b q::rest):=fun o e1 q rest k hk h1 h3 h4=>
  ⟨⟨o,0,[],[e1]⟩,q,rest,_,rfl,rfl,top [e1] _ k hk (by simp),by simp[Ex.sz,aP];omega,h3,h4⟩
 by_cases hd0:d=0
 ·subst hd0
  simp-implicitDefEqProofs[dj]
  refine(leaf p _ (by omega) (by omega)).mono ?_
  rintro r h ⟨v,q,rfl,rfl,⟨o,n,s,rfl,he⟩,h1,h2⟩
  simp-implicitDefEqProofs[aa]
  exact leafCase o n s q _ he (by omega) (by omega)
 have hd2:¬(d:Int)+1<2:=by omega
 simp-implicitDefEqProofs[dj,hd2]
 refine(aT G b hb hl p (by omega) 4 _).mono ?_
 rintro r h ⟨k1,rfl,rfl,_⟩
 simp-implicitDefEqProofs[aa]
 refine bc (fun hc=>?_) (fun hc=>?_)
 ·simp-implicitDefEqProofs[]
  refine(leaf (p+1) _ (by omega) (by omega)).mono ?_
  rintro r h ⟨v,q,rfl,rfl,⟨o,n,s,rfl,he⟩,h1,h2⟩
  simp-implicitDefEqProofs[aa]
  exact leafCase o n s q _ he (by omega) (by omega)
 simp-implicitDefEqProofs[]
 refine(aT G b hb hl (p+1) (by omega) 7 _).mono ?_
 rintro r h ⟨k2,rfl,rfl,_⟩
 simp-implicitDefEqProofs[aa]
 refine bc (fun hc=>?_) (fun hc=>?_)
 ·simp-implicitDefEqProofs[]
  refine(iJ G hb hl (p:=p+2) (by omega) [11,12,11] (k:=2) (by simp) (by simp) (by omega) rfl rfl).mono ?_
  rintro r h ⟨n,_,rfl,rfl⟩
  simp-implicitDefEqProofs[aa,hw]
  refine(sub (p+3) _ (by omega) (by omega)).mono ?_
  rintro r h ⟨v,q,rfl,rfl,⟨e,rfl,he⟩,h1,h2⟩
  have hec:=e.cs_eq
  simp-implicitDefEqProofs[aa,hec]
  exact una n e q _ 2 (by rw[hec];rfl) he (by omega) (by omega)
 ·simp-implicitDefEqProofs[]
  refine(iJ G hb hl (p:=p+2) (by omega) [3,3,4,5,6,7,8,9,10] (k:=2) (by simp) (by simp) (by omega) rfl rfl).mono ?_
  rintro r h ⟨n,_,rfl,rfl⟩
  simp-implicitDefEqProofs[aa,hw]
  refine(sub (p+3) _ (by omega) (by omega)).mono ?_
  rintro r h ⟨v,q,rfl,rfl,⟨e,rfl,he⟩,h1,h2⟩
  have hec:=e.cs_eq
  simp-implicitDefEqProofs[aa,hec,hw]
  refine(sub q _ (by omega) (by omega)).mono ?_
  rintro r h ⟨v,q2,rfl,rfl,⟨e2,rfl,he2⟩,h3,h4⟩
  have hec2:=e2.cs_eq
  simp-implicitDefEqProofs[aa,hec2]
  exact bin n e e2 q2 _ 2 (by rw[hec,hec2];rfl) he he2 (by omega) (by omega)
end Go.Proofs.YtiojgfhdcpppcaaDoor
namespace Go.Proofs.YtiojgfhdcpppcaaDoor
open Go Go.Aw
set_option maxRecDepth 100000
set_option maxHeartbeats 4000000
variable (G:aG)
theorem Ga{h:List AO}{kids:List Ex}{id:Nat}(he:h[id+1]?=some (bF 4 (exR kids))):BY h kids (slE (id+1) 4 (exR kids)):=by
 by_cases hk:kids=[]
 ·subst hk;exact .inl ⟨rfl,rfl⟩
 ·have hr:exR kids≠[]:=fun h=>hk (List.map_eq_nil_iff.1 h)
  rw[dI hr] at he
  rw[cS hr]
  have hrl:(exR kids).length=kids.length:=by simp[exR]
  rw[hrl]
  exact .inr ⟨id,exR kids,List.replicate h.length .dead,rfl,hk,he,by simp,fun i o e l=>(by rw[List.getElem?_replicate] at e;split at e<;>cases e;exact l.elim),fun⟨o,e,l⟩=>(by rw[List.getElem?_replicate] at e;split at e<;>cases e;exact l.elim),fun⟨o,e,l⟩=>(by rw[List.getElem?_replicate] at e;split at e<;>cases e;exact l.elim),by simp[exR],fun j e e1 h1 h2=>(by rw[h1] at h2;cases h2;exact fc (aW (Nat.zero_le _) _ (cX _ e (List.mem_of_getElem? h1))))⟩
theorem Ec(l:List Ex)(n:Nat):okO n (bF 4 (exR l)):=bU (AY (cX l))
theorem Af{hF:List AO}{n id:Nat}{e:Ex}(he:hF[id]?=some (bF 4 (exR e.kids))):Fzs hF n [.p (.int .i64 e.op),.p (.int .i64 e.n),.p (.str e.name),slE id 4 (exR e.kids)] (e.cs.map .p):=by
 rw[e.cs_eq]
 exact .keep (by simp) (.keep (by simp) (.keep (by simp) (.one (ff he) .nil)))
structure KdS where (k:Nat) (es:List Ex) (q:Nat)
theorem tk{b:List Int}(hb:Byt b)(hl:b.length≤2000){d:Nat}(hd:d+1≤7){p:Nat}(hp:p+20000≤1000000000000):AC Tryd.prog G dG [.ptr 0 2 0 0,.p (.int .i64 ((d+1:Nat):Int))] [rdO b p] (EN b (EoQ p 30000 20000)):=by
 refine um G (AC.go sW ?_)
 have h3:3^(d+1)≤2187:=by
  have:3^(d+1)≤3^7:=Nat.pow_le_pow_right (by omega) hd
  omega
 have fin:∀(e:Ex) (q:Nat) (rest:List AO) (K:AV),BY (rdO b q::rest) e.kids K→e.sz≤30000→p≤q→q≤p+20000→DT b (EoQ p 30000 20000) (.ret (.agg [.p (.int .i64 e.op),.p (.int .i64 e.n),.p (.str e.name),K])) (rdO b q::rest):=fun e q rest K hk h1 h2 h3=>
  ⟨e,q,rest,K,rfl,rfl,hk,h1,h2,h3⟩
 have hn4:od [[97],[98],[120],[103,111]]:=⟨by simp,by simp⟩
 have hn2:od [[97],[98]]:=⟨by simp,by simp⟩
 simp-implicitDefEqProofs[nK]
 refine(AC.give (hX:=[.dead,.dead,bx [[97],[98],[120],[103,111]]]) (hR:=[rdO b p,.row 4 [[.p (.int .i64 0),.p (.int .i64 0),.p (.str []),.nils]],.dead]) (pargs:=[.ptr 0 2 0 0,.p (ay [[97],[98],[120],[103,111]]),.p (.int .i64 ((d+1:Nat):Int))]) (.keep _ (.keep _ (.give _ .nil))) (.keep (by simp[below]) (.one (dk (l:=[[97],[98],[120],[103,111]]) rfl) (.keep (by simp) .nil))) (pL G (yj G hb hl _ hn4 d (by omega) (by omega)) _ (by simp[below]))).mono ?_
 rintro r h ⟨e0,q,rfl,rfl,he0,h1,h2⟩
 simp-implicitDefEqProofs[aa]
 refine(aT G b hb hl q (by omega) 3 _).mono ?_
 rintro r h ⟨k1,rfl,rfl,_⟩
 simp-implicitDefEqProofs[aa]
 refine bc (fun hc=>?_) (fun hc=>?_)
 ·simp-implicitDefEqProofs[]
  exact fin e0 _ _ _ (Ga rfl) (by omega) (by omega) (by omega)
 simp-implicitDefEqProofs[]
 refine(ud G hb hl (p:=q+1) (by omega) [[102],[103],[97]] (k:=5) (by simp) (by simp) (by omega) rfl rfl).mono ?_
 rintro r h ⟨s,hs,rfl,rfl⟩
 have hsl:s.length≤8:=by simp at hs;rcases hs with rfl|rfl|rfl<;>simp
 simp-implicitDefEqProofs[aa]
 refine(aT G b hb hl (q+1+1) (by omega) 4 _).mono ?_
 rintro r h ⟨k2,rfl,rfl,hk2⟩
 simp-implicitDefEqProofs[aa]
 have hexn:∀(es:List Ex) (e:Ex),exR (es++[e])=exR es++[e.cs.map .p]:=fun es e=>by simp[exR]
 refine aR (fun s:KdS=>am 42 [(7,.p (.int .i64 s.k)),(6,.ptr 6 4 0 0),(5,.ptr 4 4 0 0),(4,.ptr 1 4 0 0),(0,.ptr 0 2 0 0)])
  (fun a=>[rdO b a.q,.row 4 [[.p (.int .i64 0),.p (.int .i64 0),.p (.str []),.nils]],.dead,bF 4 (exR e0.kids),.row 4 [[.p (.int .i64 e0.op),.p (.int .i64 e0.n),.p (.str e0.name),slE 3 4 (exR e0.kids)]],.row 1 [[.p (.str [102])],[.p (.str [103])],[.p (.str [97])]],
    .row 4 [[.p (.int .i64 13),.p (.int .i64 0),.p (.str s),slE 7 4 (exR a.es)]],bF 4 (exR a.es)])
  (fun a=>a.k+a.es.length≤3∧aP a.es≤90*a.es.length∧q≤a.q∧a.q≤q+3+54*a.es.length) (fun a=>a.k) ⟨k2,[],q+1+1+1⟩ ⟨by simp only[List.length_nil];omega,by simp[aP],by simp only;omega,by simp⟩
  (mY (by simp) (by simp) (by
    intro o h
    simp only[List.mem_cons,List.not_mem_nil,or_false] at h
    rcases h with rfl|rfl|rfl|rfl|rfl|rfl|rfl
    ·exact aZ _ _ _
    ·simp[okO,below]
    ·simp[okO]
    ·exact Ec _ _
    ·simp[okO,below]
    ·simp[okO,below]
    ·simp[okO,below]) (by simp[below])) ?_
 rintro⟨k,es,q1⟩ ⟨i1,i2,i3,i4⟩
 simp only at i1 i2 i3 i4
 have hxl:(exR es).length=es.length:=by simp[exR]
 simp-implicitDefEqProofs[]
 refine bc (fun hc=>?_) (fun hc=>?_)
 ·simp at hc
  simp-implicitDefEqProofs[]
  have hE:=gq G (qT G hb hl _ hn2 2 (by omega) (p:=q1) (by omega)) ([.row 4 [[.p (.int .i64 0),.p (.int .i64 0),.p (.str []),.nils]],.dead,bF 4 (exR e0.kids),.row 4 [[.p (.int .i64 e0.op),.p (.int .i64 e0.n),.p (.str e0.name),slE 3 4 (exR e0.kids)]],.row 1 [[.p (.str [102])],[.p (.str [103])],[.p (.str [97])]],
   .row 4 [[.p (.int .i64 13),.p (.int .i64 0),.p (.str s),slE 7 4 (exR es)]],bF 4 (exR es)]) (by simp[below])
  refine hE.mono ?_
  rintro r h ⟨v,q2,rfl,rfl,⟨e,rfl,he⟩,hq1,hq2⟩
  have hec':=e.cs_eq
  simp-implicitDefEqProofs[aa,hec']
  refine⟨by rw[hxl];omega,⟨k-1,es++[e],q2⟩,⟨by simp;omega,by rw[cA];simp[aP];omega,by simp only;omega,by simp;omega⟩,by simp;omega,?_⟩
  have hwk:IntKind.i64.wrap ((k:Int)-1)=((k-1:Nat):Int):=by rw[ag (by omega) (by omega)];omega
  rw[hexn,xn _ (by simp),vC _ (by simp),hec']
  refine cJ [0,1,2,3,4,5,6,8] (by simp) (by decide) (by decide) (bn rfl (aZ _ _ _) (cC (by simp[below]) (by simp[ren,aX]) (bA (by simp) (CU rfl (cX _) (cC (by simp[below]) (by simp[ren,aX]) (be rfl (by simp[below]) (cC (by simp[below]) (by simp[ren,aX]) (be rfl (fun x hx=>by
   rcases List.mem_append.1 hx with h|h
   ·exact cX _ x h
   ·rw[List.mem_singleton.1 h];simp) bm)))))))) ?_
  simp[below,ren,hwk]
 ·simp at hc
  simp-implicitDefEqProofs[]
  refine(aT G b hb hl q1 (by omega) 2 _).mono ?_
  rintro r h ⟨k3,rfl,rfl,_⟩
  simp-implicitDefEqProofs[aa]
  refine bc (fun hc2=>?_) (fun hc2=>?_)
  ·simp-implicitDefEqProofs[]
   exact fin ⟨13,0,s,es⟩ (q1+1) _ _ (Ga rfl) (by simp[Ex.sz];omega) (by omega) (by omega)
  ·simp-implicitDefEqProofs[]
   have hv:∀hF:List AO,hF[3]?=some (bF 4 (exR e0.kids))→hF[7]?=some (bF 4 (exR es))→∀(n j:Nat) (x x1:List AV),[[AV.p (.int .i64 e0.op),.p (.int .i64 e0.n),.p (.str e0.name),slE 3 4 (exR e0.kids)],[.p (.int .i64 13),.p (.int .i64 0),.p (.str s),slE 7 4 (exR es)]][j]?=some x→(exR [e0,⟨13,0,s,es⟩])[j]?=some x1→Fzs hF n x x1:=by
    intro hF h3 h7 n j x x1 a1 a2
    match j,a1,a2 with
    |0,a1,a2=>cases a1;cases a2;exact Af h3
    |1,a1,a2=>cases a1;cases a2;exact Af (e:=⟨13,0,s,es⟩) h7
    |j+2,a1,a2=>simp at a1
   refine fin ⟨3,0,[],[e0,⟨13,0,s,es⟩]⟩ (q1+1) _ _ (.inr ⟨7,_,[.dead,.dead,.dead,bF 4 (exR e0.kids),.dead,.dead,.dead,bF 4 (exR es),.dead],rfl,by simp[Ex.kids],rfl,rfl,fun i o e l=>?_,fun⟨o,e,l⟩=>?_,fun⟨o,e,l⟩=>?_,rfl,hv _ rfl rfl _⟩) (by simp[Ex.sz,aP];omega) (by omega) (by omega)
   ·match i,e with
    |0,e=>cases e;exact l.elim
    |1,e=>cases e;exact l.elim
    |2,e=>cases e;exact l.elim
    |3,e=>exact e
    |4,e=>cases e;exact l.elim
    |5,e=>cases e;exact l.elim
    |6,e=>cases e;exact l.elim
    |7,e=>exact e
    |8,e=>cases e;exact l.elim
    |i+9,e=>simp at e
   ·cases e;exact l
   ·cases e;exact l
theorem zW{b:List Int}(hb:Byt b)(hl:b.length≤2000){p:Nat}(hp:p+50000≤1000000000000):AC Tryd.prog G fU [.ptr 0 2 0 0] [rdO b p] fun x h=>∃v q,x= .ret v∧h=[rdO b q]∧ExQ p 60000 50000 v q:=by
 refine jF G (AC.go rO ?_)
 have fin:∀(e:Ex) (q:Nat) (rest:List AO) (v:AV),Fzs (.dead::rest) 1 [v] [.agg (e.cs.map .p)]→e.sz≤60000→p≤q→q≤p+50000→DP b (ExQ p 60000 50000) (.ret v) (rdO b q::rest):=fun e q rest v hz h1 h2 h3=>
  ⟨_,rest,q,.agg (e.cs.map .p),rfl,rfl,hz,⟨e,rfl,h1⟩,h2,h3⟩
 simp-implicitDefEqProofs[lS]
 refine(pL G (tk G hb hl (d:=3) (by omega) (by omega)) _ (by simp[below])).mono ?_
 rintro r h ⟨e0,q,rfl,rfl,he0,h1,h2⟩
 have hsz:=e0.sz_eq
 have hkl:=bQ e0.kids
 have hrl:(exR e0.kids).length=e0.kids.length:=by simp[exR]
 simp-implicitDefEqProofs[aa]
 refine(aT G b hb hl q (by omega) 20 _).mono ?_
 rintro r h ⟨k1,rfl,rfl,_⟩
 by_cases k10:k1=0
 ·subst k10
  simp-implicitDefEqProofs[aa]
  refine(iJ G hb hl (p:=q+1) (by omega) [-1,256,3] (k:=4) (by simp) (by simp) (by omega) rfl rfl).mono ?_
  rintro r h ⟨n,_,rfl,rfl⟩
  simp-implicitDefEqProofs[aa]
  exact fin ⟨e0.op,n,e0.name,e0.kids⟩ _ _ _ (sC (ff rfl)) (by simp[Ex.sz];omega) (by omega) (by omega)
 by_cases k11:k1=1
 ·subst k11
  simp-implicitDefEqProofs[aa]
  refine(ud G hb hl (p:=q+1) (by omega) [[],[100,111],[65],[97,98,99,100,101],[113]] (k:=4) (by simp) (by simp) (by omega) rfl rfl).mono ?_
  rintro r h ⟨s,hs,rfl,rfl⟩
  have hsl:s.length≤8:=by simp at hs;rcases hs with rfl|rfl|rfl|rfl|rfl<;>simp
  simp-implicitDefEqProofs[aa]
  exact fin ⟨e0.op,e0.n,s,e0.kids⟩ _ _ _ (sC (ff rfl)) (by simp[Ex.sz];omega) (by omega) (by omega)
 by_cases k12:k1=2
 ·subst k12
  simp-implicitDefEqProofs[aa]
  refine(iJ G hb hl (p:=q+1) (by omega) [0,14,-1,5,11] (k:=4) (by simp) (by simp) (by omega) rfl rfl).mono ?_
  rintro r h ⟨n,_,rfl,rfl⟩
  simp-implicitDefEqProofs[aa]
  exact fin ⟨n,e0.n,e0.name,e0.kids⟩ _ _ _ (sC (ff rfl)) (by simp[Ex.sz];omega) (by omega) (by omega)
 by_cases k13:k1=3
 ·subst k13
  simp-implicitDefEqProofs[aa]
  refine(AC.give (pargs:=[.ptr 0 2 0 0,.p (ay [])]) (Spl.rest _) (.keep (by simp[below]) (.one (View.nils 1) .nil)) (gq G (qq G hb hl (p:=q+1) (by omega) [] ⟨by simp,by simp⟩) _ (by simp[below]))).mono ?_
  rintro r h ⟨v,q2,rfl,rfl,⟨e1,rfl,he1⟩,h3,h4⟩
  have hec1:=e1.cs_eq
  have hx:exR (e0.kids++[e1])=exR e0.kids++[[.p (.int .i64 e1.op),.p (.int .i64 e1.n),.p (.str e1.name),.p (exL e1.kids)]]:=by simp[exR,hec1]
  have hne:exR (e0.kids++[e1])≠[]:=by simp[exR]
  simp-implicitDefEqProofs[aa,hec1]
  refine⟨by omega,?_⟩
  rw[←hx]
  have hl2:(exR e0.kids).length+1=(exR (e0.kids++[e1])).length:=by simp[exR]
  have hv:∀h:List AO,h[4]?=some (.row 4 (exR (e0.kids++[e1])))→View h (.sl 4 4 0 ((exR e0.kids).length+1)) (exL (e0.kids++[e1])):=fun h e=>by
   have:=ff (h:=h) (id:=4) (l:=e0.kids++[e1]) (by rw[dI hne];exact e)
   rwa[cS hne,←hl2] at this
  exact fin ⟨e0.op,e0.n,e0.name,e0.kids++[e1]⟩ q2 _ _ (sC (hv _ rfl)) (by simp[Ex.sz,cA,aP];omega) (by omega) (by omega)
 by_cases k14:k1=4
 ·subst k14
  simp-implicitDefEqProofs[aa]
  refine(pL G (tk G hb hl (d:=6) (by omega) (by omega)) _ (by simp[below])).mono ?_
  rintro r h ⟨e1,q2,rfl,rfl,he1,h3,h4⟩
  simp-implicitDefEqProofs[aa]
  have hs1:=e1.sz_eq
  exact fin ⟨e1.op,e1.n,e1.name,e1.kids⟩ _ _ _ (sC (ff rfl)) (by simp[Ex.sz];omega) (by omega) (by omega)
 have c1:¬(k1:Int)=1:=by omega
 have c2:¬(k1:Int)=2:=by omega
 have c3:¬(k1:Int)=3:=by omega
 have c4:¬(k1:Int)=4:=by omega
 simp-implicitDefEqProofs[aa,k10,c1,c2,c3,c4]
 exact fin ⟨e0.op,e0.n,e0.name,e0.kids⟩ _ _ _ (sC (ff rfl)) (by simp[Ex.sz];omega) (by omega) (by omega)
end Go.Proofs.YtiojgfhdcpppcaaDoor
namespace Go.Proofs.YtiojgfhdcpppcaaDoor
open Go Go.Aw
set_option maxRecDepth 100000
theorem mC(l:List Fd):br l=true↔(1≤l.length∧l.length≤4)∧(∀f∈l,ir f=true)∧jj l≤40:=by
 simp only[br,inR,Bool.and_eq_true,decide_eq_true_eq,List.all_eq_true]
 constructor
 ·rintro⟨⟨⟨h1,h2⟩,h3⟩,h4⟩;exact⟨⟨by omega,by omega⟩,h3,h4⟩
 ·rintro⟨⟨h1,h2⟩,h3,h4⟩;exact⟨⟨⟨by omega,by omega⟩,h3⟩,h4⟩
def Fd.cut(f:Fd)(n:Nat):Fd:=⟨f.name,f.params,f.body.take n⟩
end Go.Proofs.YtiojgfhdcpppcaaDoor
