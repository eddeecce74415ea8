import Derived.Test.YtiijokopcgnokaaGreatWRowOn
import Derived.Lib.AppendZerosOnto
set_option linter.unusedSimpArgs false
set_option linter.unusedVariables false
namespace Go.Proofs.YtiijokopcgnokaaGreat
open Go Go.RowKit
section
variable {P : Program}
theorem run_copy_n (w:World) (dT sT ty elem:TypeId) (g o dLen dCap:Nat) (a:Addr) (sLen sCap m size:Nat) (cur:Array Value) (t:TypeId) (cs:List Value)
  (hu:P.underlying dT=some (.slice elem)) (hs:(P.info? elem).map (·.size)=some size) (hg:w.heap[g]?=some (.cells cur t (0,0))) (hm:m=Nat.min sLen dLen) (hn:cs.length=m*size)
  (hsrc:∀ j v,cs[j]?=some v→w.cell? (a.add j)=some v) (hfit:o+cs.length≤cur.size) (h1:∀ v∈cs,v.oneCell'=true) :
  (Builtin.copy_ #[dT,sT] ty #[.slice (some ⟨g,o,none⟩) dLen dCap,.slice (some a) sLen sCap]).run P w =
   .ok (goInt m) (w.setRow g (cur.toList.take o++cs++cur.toList.drop (o+cs.length)).toArray):=by
 have hl:=run_loadCells_list (P:=P) w a cs hsrc;have hst:=run_storeCells_at P g o t cs 0 cur w hg (by simpa using hfit) h1
 cases hq:P.info? elem with
 | none=>simp [hq] at hs
 | some i =>
  have hi:i.size=size:=by simpa [hq] using hs
  simp [Builtin.copy_,run_underlying hu,Builtin.lenOf,Builtin.firstCells,sizeOf,typeInfo,hq,hi,←hm,←hn,hl,hst]
theorem Xqe {w:World} {o:Oper} {a:Act} {K:Act→World→Prop} {Q:Exit→Act→World→Prop} (d s:Operand) (dT sT:TypeId)
  (ho:o.op=.call { callee:=.builtin .copy,args:=#[d,s],argTypes:=#[dT,sT] }) (elem:TypeId) (hu:P.underlying dT=some (.slice elem)) (size:Nat) (hsz:(P.info? elem).map (·.size)=some size)
  (g off dLen dCap:Nat) (ad:Addr) (sLen sCap m:Nat) (hd:a.eval d=.slice (some ⟨g,off,none⟩) dLen dCap) (hs:a.eval s=.slice (some ad) sLen sCap)
  (cur:List Value) (t:TypeId) (hg:Blk w g cur t) (hm:m=Nat.min sLen dLen) (cs:List Value) (hn:cs.length=m*size) (hsrc:∀ j v,cs[j]?=some v→w.cell? (ad.add j)=some v)
  (hfit:off+cs.length≤cur.length) (h1:∀ v∈cs,v.oneCell'=true)
  (h:∀ w',Blk w' g (splice cur off cs) t→Only [g] w w'→K (a.put o.dst (goInt m)) w'):o.wp P a w K Q:=by
 have hrun:=run_copy_n (P:=P) w dT sT o.type elem g off dLen dCap ad sLen sCap m size cur.toArray t cs hu hsz hg hm hn hsrc (by simpa using hfit) h1;unfold Oper.wp
 simp [execOp,ho,resolve,invoke,builtin,hd,hs,hrun,Result.andThen]
 exact h _ ((hg.row _).to (by simp [splice])) ((Only.refl _ _).setRow (.inl (by simp)) _)
theorem Xcy {w:World} {ops:Array Oper} {rest:List Oper} {o:Oper} {a:Act} {Q:Exit→Act→World→Prop} (hgd:o.guard=none) (d s:Operand) (dT sT:TypeId)
  (ho:o.op=.call { callee:=.builtin .copy,args:=#[d,s],argTypes:=#[dT,sT] }) (elem:TypeId) (hu:P.underlying dT=some (.slice elem)) (size:Nat) (hsz:(P.info? elem).map (·.size)=some size)
  (g off dLen dCap:Nat) (ad:Addr) (sLen sCap m:Nat) (hd:a.eval d=.slice (some ⟨g,off,none⟩) dLen dCap) (hs:a.eval s=.slice (some ad) sLen sCap)
  (cur:List Value) (t:TypeId) (hg:Blk w g cur t) (hm:m=Nat.min sLen dLen) (cs:List Value) (hn:cs.length=m*size) (hsrc:∀ j v,cs[j]?=some v→w.cell? (ad.add j)=some v)
  (hfit:off+cs.length≤cur.length) (h1:∀ v∈cs,v.oneCell'=true)
  (h:∀ w',Blk w' g (splice cur off cs) t→Only [g] w w'→wpList P ops Q rest (a.put o.dst (goInt m)) w'):wpList P ops Q (o :: rest) a w :=
 wpList_plain hgd fun _ hK=>Xqe d s dT sT ho elem hu size hsz g off dLen dCap ad sLen sCap m hd hs cur t hg hm cs hn hsrc hfit h1 fun w' hb hO=>hK _ _ (h w' hb hO)
theorem Xmp {w:World} {o:Oper} {a:Act} {K:Act→World→Prop} {Q:Exit→Act→World→Prop} (sl:Nat) (hsl:o.dst=some sl) (d s:Operand) (dT sT:TypeId)
  (ho:o.op=.call { callee:=.builtin .copy,args:=#[d,s],argTypes:=#[dT,sT] }) (elem:TypeId) (hu:P.underlying dT=some (.slice elem)) (size:Nat) (hsz:(P.info? elem).map (·.size)=some size)
  (g off dLen dCap:Nat) (ad:Addr) (sLen sCap m:Nat) (hd:a.eval d=.slice (some ⟨g,off,none⟩) dLen dCap) (hs:a.eval s=.slice (some ad) sLen sCap)
  (cur:List Value) (t:TypeId) (hg:Blk w g cur t) (hm:m=Nat.min sLen dLen) (cs:List Value) (hn:cs.length=m*size) (hsrc:∀ j v,cs[j]?=some v→w.cell? (ad.add j)=some v)
  (hfit:off+cs.length≤cur.length) (h1:∀ v∈cs,v.oneCell'=true)
  (h:∀ w',Blk w' g (splice cur off cs) t→Only [g] w w'→K (a.put (some sl) (goInt m)) w'):o.wp P a w K Q:=by
 rw [←hsl] at h;exact Xqe d s dT sT ho elem hu size hsz g off dLen dCap ad sLen sCap m hd hs cur t hg hm cs hn hsrc hfit h1 h
theorem run_clear_n (w:World) (t e ty:TypeId) (z:Value) (ht:P.underlying t=some (.slice e)) (hv:∀ w,(zeroValue e).run P w=.ok z w) (g o n c:Nat) (cur:List Value) (tt:TypeId) (hg:Blk w g cur tt) (hn:0<n)
  (zs:List Value) (hz:(Builtin.zeroCells z.cells n).toList=zs) (h1:∀ v∈zs,v.oneCell'=true) (hfit:o+zs.length≤cur.length) :
  ∃ w',(Builtin.clear_ #[t] ty #[.slice (some ⟨g,o,none⟩) n c]).run P w=.ok (.tuple #[]) w'∧Blk w' g (splice cur o zs) tt∧Only [g] w w':=by
 have hst:=run_storeCells_at P g o tt zs 0 cur.toArray w hg (by simpa using hfit) h1;simp only [Wm] at hst;obtain ⟨m,rfl⟩:∃ m,n=m+1:=⟨n-1,by omega⟩;refine ⟨w.setRow g (cur.take o++zs++cur.drop (o+zs.length)).toArray,?_,((hg.row _).to (by simp [splice])),(Only.refl _ _).setRow (.inl (by simp)) _⟩;simp only [Zu] at hst ⊢
 simp [Builtin.clear_,run_underlying ht,hv,hz,hst]
theorem Xgt {w:World} {ops:Array Oper} {rest:List Oper} {o:Oper} {a:Act} {Q:Exit→Act→World→Prop} (hgd:o.guard=none) (s x:Operand) (t tn:TypeId)
  (ho:o.op=.call { callee:=.builtin .append,args:=#[s,x],argTypes:=#[t,tn] }) (e:TypeId) {z:Value} {size bytes:Nat} {kn:IntKind} (ht:P.underlying t=some (.slice e)) (htn:P.underlying tn=some (.int kn))
  (hi:∃ i,P.info? e=some i∧i.zero=some z∧i.size=size∧i.bytes=bytes) (hzs:z.cells.size=size) (hsz:0<size) (g n sCap:Nat) (cur:List Value) (hg:Blk w g cur e) (hcur:n*size≤cur.length) (hs:a.eval s=.slice (some ⟨g,0,none⟩) n sCap) (k:Nat) (hx:a.eval x=.int .i64 k) (h0:0<k)
  (hcap:sCap<n+k) (hnk:n+k≤16777216) (hb:bytes≤1024)
  (h:∀ cap cur' w',Blk w' w.heap.size cur' e→cur'.length=cap*size→n+k≤cap→cap≤maxLen→cur'.take (n*size)=cur.take (n*size)→Only [] w w'→wpList P ops Q rest (a.put o.dst (.slice (some ⟨w.heap.size,0,none⟩) (n+k) cap)) w'):wpList P ops Q (o :: rest) a w:=by
 obtain ⟨i,hi,hz,hs1,hby⟩:=hi
 have hnx:Builtin.nextslicecap (n+k) sCap*i.bytes≤281474976710656:=by
  have h3:Builtin.nextslicecap (n+k) sCap≤268435456:=by
   unfold Builtin.nextslicecap;split
   ·omega
   ·split
    ·omega
    ·have:∀ r c,c≤16777216→Builtin.growBy (n+k) r c≤268435456:=by
      intro r
      induction r with
      | zero=>intro c hc;simp only [Builtin.growBy];omega
      | succ r ih =>
       intro c hc;simp only [Builtin.growBy];split
       ·omega
       ·by_cases h5:c+(c+768) / 4≤16777216
        ·exact ih _ h5
        ·have:∀ r c,n+k≤c→c≤268435456→Builtin.growBy (n+k) r c≤268435456:=by
          intro r c h6 h7
          cases r with
          | zero=>simpa only [Builtin.growBy] using h7
          | succ r=>simp only [Builtin.growBy];rw [if_pos (by omega)];exact h7
         exact this r _ (by omega) (by omega)
     exact this 4 sCap (by omega)
  calc _≤268435456*1024:=Nat.mul_le_mul h3 (by omega)
   _≤_:=by omega
 have hold:(Builtin.firstCells i.size n (.slice (some ⟨g,0,none⟩) n sCap)).run P w.drew=.ok (cur.take (n*size)).toArray w.drew:=by
  refine run_firstCells_some (P:=P) w.drew i.size n ⟨g,0,none⟩ n sCap (cur.take (n*size)) (by rw [hs1,Zj];omega) (fun j u hu=>?_);rw [Xah];rw [hg.drew.cell];exact take_get (by simpa using hu)
 have hr:=Lib.run_append_grow_zeros (P:=P) w t tn o.type e i z .i64 kn ht htn hi hz (some ⟨g,0,none⟩) n sCap _ hold k h0 (by omega) hcap (by omega) (by rw [hby];calc k*bytes≤16777216*1024:=Nat.mul_le_mul (by omega) hb
   _≤_:=by omega) hnx
 have hge:=grownCap_ge w (n+k) sCap e;have hle:=grownCap_le_maxLen w (n+k) sCap e (by unfold maxLen;omega)
 generalize grownCap w (n+k) sCap e=cap' at *
 have hzl:∀ q,(Builtin.zeroCells z.cells q).size=q*size:=fun q=>by simp [Builtin.zeroCells,hzs]
 refine Lib.wpList_append_run w hgd s x t tn ho _ (.int .i64 k) hs hx _ _ hr ?_
 refine h cap' _ _ (Blk.new' _ e w.drew rfl) ?_ hge hle ?_ (((Only.refl _ _).drew).alloc _)
 ·simp only [Array.toList_append,Ze,Array.length_toList,hzl]
  rw [Zj,Yt hcur,←Nat.add_mul,←Nat.add_mul]
  congr 1;omega
 ·simp only [Array.toList_append]
  rw [Zu,Xm (by simp;omega),Ya (by rw [Zj];omega)]
end
end Go.Proofs.YtiijokopcgnokaaGreat
