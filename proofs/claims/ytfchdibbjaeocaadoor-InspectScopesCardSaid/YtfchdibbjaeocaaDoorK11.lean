/- Loud operations of a symbolic walk: stores, calls, literals in new memory, make, append. Generic in the program; no condition of its own. -/
import Derived.Test.YtfchdibbjaeocaaDoorK10
import Derived.Laws.CopyRow
import Derived.Deep.AppendSrc
namespace Go.Kx
open Go.RowKit

section
variable {P : Program}

/-! ### Stores -/
/-- What the world is behind a store of cells into a block that is known. -/
theorem run_store_block {t : TypeId} {ti : TI} (ht : TOk P t ti) {w : World} {g off : Nat} {cur : Array Value} {tb : TypeId} (hg : w.heap[g]? = some (.cells cur tb (0, 0))) {v : Value} {vs : List Value} (hv : v.cells.toList = vs) (hl : vs.length = ti.size)
    (hfit : off + vs.length ≤ cur.size) (h1 : ∀ u ∈ vs, u.oneCell' = true) : (Instr.storeAt t (.pointer (some ⟨g, off, none⟩)) v).run P w = .ok () (w.setRow g (splice cur.toList off vs).toArray) := by
  have hst := run_storeCells_at P g off tb vs 0 cur w hg (by simpa using hfit) h1
  simp only [Nat.add_zero] at hst
  have hsz : v.cells.size = ti.size := by rw [← Array.length_toList, hv, hl]
  simp only [Instr.storeAt, Instr.sureAddr, Sem.run_bind, Sem.run_pure, Result.andThen_ok, storeVar, ht.sizeOf w, hsz]
  rw [if_neg (by simp)]
  rw [hv]
  exact hst
def storeX (T : Tab) (t : TypeId) (c : SC) (sv : SV) (G : List SB) (K : List SB → Prop) : Prop :=
  match c with
  | .ptr k off => tabX T t fun ti => cellsX sv fun l => lenC l fun m => natEq m ti.size (pos m <| allOne G l <| getG G k fun s => match s with
    | .box tb cs => putC cs off l fun cs' => setG G k (.box tb cs') K
    | .arr tb xs => allVal l fun ys => off + ys.length ≤ xs.length ∧ setG G k (.arr tb (splice xs off ys)) K
    | .row e sz n xs => allVal l fun ys => off + ys.length ≤ xs.length ∧ setG G k (.row e sz n (splice xs off ys)) K
    | _ => False)
  | _ => False
theorem splice_length {α : Type} {l : List α} {o : Nat} {ys : List α} (h : o + ys.length ≤ l.length) : (splice l o ys).length = l.length := by simp [splice]; omega
theorem take_splice {α : Type} {l : List α} {o n : Nat} {ys : List α} (h : o + ys.length ≤ n) (hn : n ≤ l.length) : (splice l o ys).take n = splice (l.take n) o ys := by
  apply List.ext_getElem?
  intro i
  rw [List.getElem?_take]
  unfold splice
  by_cases hi : i < n
  · rw [if_pos hi]
    rcases Nat.lt_or_ge i o with h1 | h1
    · rw [List.append_assoc, List.append_assoc, List.getElem?_append_left (by simp; omega), List.getElem?_append_left (by simp; omega), List.getElem?_take, List.getElem?_take, List.getElem?_take, if_pos h1, if_pos h1, if_pos hi]
    · rcases Nat.lt_or_ge i (o + ys.length) with h2 | h2
      · rw [List.append_assoc, List.append_assoc, List.getElem?_append_right (by simp; omega), List.getElem?_append_left (by simp; omega), List.getElem?_append_right (by simp; omega), List.getElem?_append_left (by simp; omega)]
        congr 1
        simp; omega
      · rw [List.getElem?_append_right (by simp; omega), List.getElem?_append_right (by simp; omega), List.getElem?_drop, List.getElem?_drop, List.getElem?_take, if_pos (by simp; omega)]
        congr 1
        simp; omega
  · rw [if_neg hi, eq_comm, List.getElem?_eq_none]
    simp; omega
theorem drop_splice {α : Type} {l : List α} {o off : Nat} {ys : List α} (h : o + off ≤ l.length) : (splice l (o + off) ys).drop o = splice (l.drop o) off ys := by
  unfold splice
  rw [List.append_assoc, List.append_assoc, List.drop_append_of_le_length (by simp; omega), List.drop_take, List.drop_drop]
  congr 1
  · congr 1; omega
  · congr 2; omega
theorem storeX_ok {T : Tab} (hT : TabOk P T) {o : Oper} {t : TypeId} {x y : Operand} (ho : o.op = .store t x y) {F : Fr} {H : Hp} {G : List SB} {K : SV → Hp → List SB → Prop} {Kp : List PanicEntry → Hp → List SB → Prop}
    (h : evX x F fun sx => evX y F fun sy => cellX sx fun c => storeX T t c sy G fun G' => K (pv undef) H G') : LO P o F H G K Kp := by
  obtain ⟨sx, h, hx⟩ := evX_ok h
  obtain ⟨sy, h, hy⟩ := evX_ok h
  obtain ⟨c, rfl, h⟩ := cellX_ok h
  cases c with
  | ptr k off =>
    obtain ⟨ti, ht, h⟩ := tabX_ok hT h
    obtain ⟨l, h, hl⟩ := cellsX_ok h
    have h := lenC_ok h
    obtain ⟨hm, h⟩ := natEq_ok h
    obtain ⟨hpos, h⟩ := pos_ok h
    obtain ⟨h, hone⟩ := allOne_ok h
    obtain ⟨s, hk, h⟩ := getG_ok h
    intro w0 M hgd H0 ρ a w hs hf
    have hp := hx ρ a hf
    have hv := hy ρ a hf
    obtain ⟨r, hr, hpt⟩ := hp
    -- the value's cells
    have hcells : ∃ zs, (a.eval y).cells.toList = zs ∧ All2 (SC.Is ρ) l zs := by
      rcases hl ρ _ hv with ⟨c, rfl, rfl⟩ | ⟨zs, e, hz⟩
      · have h1 := hone ρ H w [a.eval y] hs.sw (.cons hv .nil) _ List.mem_cons_self
        refine ⟨[a.eval y], ?_, .cons hv .nil⟩
        generalize a.eval y = v at *
        cases v <;> first | rfl | cases h1
      · exact ⟨_, by rw [e]; rfl, hz⟩
    obtain ⟨zs, hz1, hz2⟩ := hcells
    have hzl : zs.length = ti.size := by rw [← hz2.length, hm]
    have hzone := hone ρ H w zs hs.sw hz2
    have fin : ∀ (off g : Nat) (cur : Array Value) (tb : TypeId), a.eval x = .pointer (some ⟨g, off, none⟩) → w.heap[g]? = some (.cells cur tb (0, 0)) → off + zs.length ≤ cur.size →
        (execOp a.eval o).run P w = .ok .skip (w.setRow g (splice cur.toList off zs).toArray) := fun off g cur tb e hg hfit => by
      have := run_store_block ht hg hz1 hzl hfit hzone
      simp [execOp, ho, e, this]
    have turn : ∀ (off g : Nat) (cur : Array Value) (tb : TypeId) (s' : SB), w.heap[g]? = some (.cells cur tb (0, 0)) → s.blk r = some g → s'.Ok ρ (w.setRow g (splice cur.toList off zs).toArray) r → (s'.blk r = some g ∨ s'.blk r = none) →
        St w0 M H0 ρ H (G.set k s') (w.setRow g (splice cur.toList off zs).toArray) := fun off g cur tb s' hg hb hok hb' =>
      hs.turn hk hr hb rfl rfl rfl (by simp) (fun b _ hne => setRow_other w g b _ hne) hok hb'
    cases s with
    | box tb cs =>
      obtain ⟨cs', h, h3, h4⟩ := putC_ok h
      obtain ⟨_, h⟩ := setG_ok h
      obtain ⟨g, ys, rfl, hg, hcs⟩ := hs.ok k _ r hk hr
      simp only [ptrAt, Option.some.injEq] at hpt
      have hlne : l ≠ [] := fun e => hpos (by rw [e]; rfl)
      have h3' : off + l.length ≤ cs.length := h3.resolve_left hlne
      have h4' : cs' = splice cs off l := by
        rcases h4 with ⟨e, _⟩ | e
        · exact absurd e hlne
        · exact e
      subst h4'
      have hcl := hcs.length
      have hzl2 := hz2.length
      rw [fin off g ys.toArray tb hpt.symm hg (by simp; omega)]
      refine ⟨_, ρ, H, _, turn off g ys.toArray tb (.box tb (splice cs off l)) hg rfl ⟨g, splice ys off zs, rfl, setRow_heap w g _ _ _ _ hg, ?_⟩ (.inl rfl), .refl _, pv_is _ _, .refl _, h⟩
      exact ((hcs.take off).append hz2).append (by rw [hzl2]; exact hcs.drop _)
    | arr tb xs =>
      obtain ⟨vs, h, hvs⟩ := allVal_ok h
      obtain ⟨hfit, h⟩ := h
      obtain ⟨_, h⟩ := setG_ok h
      obtain ⟨g, rfl, hg⟩ := hs.ok k _ r hk hr
      simp only [ptrAt, Option.some.injEq] at hpt
      obtain rfl := hvs ρ zs hz2
      rw [fin off g xs.toArray tb hpt.symm hg (by simpa using hfit)]
      exact ⟨_, ρ, H, _, turn off g xs.toArray tb (.arr tb (splice xs off zs)) hg rfl ⟨g, rfl, setRow_heap w g _ _ _ _ hg⟩ (.inl rfl), .refl _, pv_is _ _, .refl _, h⟩
    | row e sz n xs =>
      obtain ⟨vs, h, hvs⟩ := allVal_ok h
      obtain ⟨hfit, h⟩ := h
      obtain ⟨_, h⟩ := setG_ok h
      obtain rfl := hvs ρ zs hz2
      have hrow := hs.ok k _ r hk hr
      rcases hrow.2 with ⟨rfl, _⟩ | ⟨g, oo, cap, cur, rfl, hg, hnc, hcm, hcs, htk⟩
      · simp [ptrAt] at hpt
      · simp only [ptrAt, Option.some.injEq] at hpt
        have hxl := hrow.1
        have hlen : oo + n * sz ≤ cur.size := Nat.le_trans (Nat.add_le_add_left (Nat.mul_le_mul_right _ hnc) _) hcs
        rw [fin (oo + off) g cur e hpt.symm hg (by omega)]
        refine ⟨_, ρ, H, _, turn (oo + off) g cur e (.row e sz n (splice xs off zs)) hg rfl ⟨by rw [splice_length hfit]; exact hxl, .inr ⟨g, oo, cap, _, rfl, setRow_heap w g _ _ _ _ hg, hnc, hcm, ?_, ?_⟩⟩ (.inl rfl), .refl _, pv_is _ _, .refl _, h⟩
        · simp only [List.size_toArray]
          rw [splice_length (by simp; omega)]
          simpa using hcs
        · simp only
          rw [drop_splice (by simp; omega), take_splice (by omega) (by simp; omega), htk]
    | _ => exact h.elim
  | _ => exact h.elim

/-! ### Calls of Go functions -/
/-- The function that is called, and what it is handed beside its arguments. -/
def calleeX (sv : SV) (K : FuncId → List SV → List SV → Prop) : Prop :=
  match sv with
  | .si (.ce (.fn (.func f) n caps)) => K f ((caps.take n).map fun p => .si (.ce (.ptr p.1 p.2))) ((caps.drop n).map fun p => .si (.ce (.ptr p.1 p.2)))
  | .si (.ce (.val (.func (.func f) x y))) => K f (x.toList.map fun v => .si (.ce (.val v))) (y.toList.map fun v => .si (.ce (.val v)))
  | _ => False
theorem calleeX_ok {sv : SV} {K : FuncId → List SV → List SV → Prop} (h : calleeX sv K) :
    ∃ f s1 s2, K f s1 s2 ∧ ∀ ρ v, sv.Is ρ v → ∃ x y : List Value, v = .func (.func f) x.toArray y.toArray ∧ All2 (SV.Is ρ) s1 x ∧ All2 (SV.Is ρ) s2 y := by
  unfold calleeX at h
  split at h
  · refine ⟨_, _, _, h, fun ρ v hv => ?_⟩
    obtain ⟨ys, rfl, hys⟩ := hv
    exact ⟨_, _, rfl, All2.map_left ((hys.take _).mono fun p z hz => hz), All2.map_left ((hys.drop _).mono fun p z hz => hz)⟩
  · rename_i f x y
    refine ⟨_, _, _, h, fun ρ v hv => ⟨x.toList, y.toList, hv, ?_, ?_⟩⟩
    · generalize x.toList = l; clear h hv; induction l with | nil => exact .nil | cons a l ih => exact .cons rfl ih
    · generalize y.toList = l; clear h hv; induction l with | nil => exact .nil | cons a l ih => exact .cons rfl ih
  · exact h.elim
/-- A function that has a body here. -/
def Bodied (P : Program) (f : FuncId) : Prop := ∃ fn, P.funcs[f]? = some fn ∧ fn.body.isSome = true ∧ (fn.name == "runtime.NumGoroutine") = false
theorem run_callFunc {f : FuncId} (hb : Bodied P f) (args : Array Value) (w : World) : (callFunc f args).run P w = .ok (.enter f args) w := by
  obtain ⟨fn, h1, h2, h3⟩ := hb
  have h3' : ¬ fn.name = "runtime.NumGoroutine" := by simpa using h3
  have h2' : ¬ fn.body = none := fun e => by rw [e] at h2; cases h2
  simp [callFunc, program, Sem.run, h1, h3', h2']
def callX (P : Program) (fv : SV) (args : List SV) (H : Hp) (G : List SB) (K : SV → Hp → List SB → Prop) (Kp : List PanicEntry → Hp → List SB → Prop) : Prop :=
  calleeX fv fun f s1 s2 => Bodied P f ∧ CallS P f (s1 ++ args ++ s2) H G fun e H' G' => match e with
    | .ret v => K v H' G'
    | .pan ch => Kp ch H' G'
theorem callX_ok {o : Oper} {fx : Operand} {args : Array Operand} {ts : Array TypeId} (ho : o.op = .call ⟨.value fx, args, ts⟩) {F : Fr} {H : Hp} {G : List SB} {K : SV → Hp → List SB → Prop} {Kp : List PanicEntry → Hp → List SB → Prop}
    (h : evX fx F fun fv => evL args.toList F fun l => callX P fv l H G K Kp) : LO P o F H G K Kp := by
  obtain ⟨fv, h, hfv⟩ := evX_ok h
  obtain ⟨l, h, hl⟩ := evL_ok h
  obtain ⟨f, s1, s2, ⟨hb, h⟩, hc⟩ := calleeX_ok h
  intro w0 M hgd H0 ρ a w hs hf
  obtain ⟨x, y, e, hx, hy⟩ := hc ρ _ (hfv ρ a hf)
  have hargs : All2 (SV.Is ρ) (s1 ++ l ++ s2) (x ++ args.toList.map a.eval ++ y) := (hx.append (hl ρ a hf)).append hy
  have hrun : (execOp a.eval o).run P w = .ok (.enter f (x ++ args.toList.map a.eval ++ y).toArray) w := by
    have ea : (args.toList.map a.eval).toArray = args.map a.eval := by rw [← Array.toList_map]
    simp only [execOp, ho, resolve, Sem.run_bind, Sem.run_pure, Result.andThen_ok, e, Deferred.ofValue, invoke, run_callFunc hb]
    congr 2
    simp [← ea]
  rw [hrun]
  refine (h.to w0 M hgd H0 ρ w _ hs hargs).mono fun e' w' he => ?_
  cases e' with
  | returned v => obtain ⟨sv, ρ', H', G', h1, h2, h3, h4, h5⟩ := he; exact ⟨sv, ρ', H', G', h1, h2, h3, h4, h5⟩
  | panicked ch => obtain ⟨ρ', H', G', h1, h2, h4, h5⟩ := he; exact ⟨ρ', H', G', h1, h2, h4, h5⟩
  | outgrown => exact he

/-! ### Literals in new memory -/
def repZ (zs : List SC) : Nat → (List SC → Prop) → Prop
  | 0, K => K []
  | n + 1, K => repZ zs n fun l => appC zs l K
where appC : List SC → List SC → (List SC → Prop) → Prop
  | [], l, K => K l
  | c :: r, l, K => appC r l fun l' => K (c :: l')
theorem appC_ok {a l : List SC} {K : List SC → Prop} (h : repZ.appC a l K) : K (a ++ l) := by
  induction a generalizing K with
  | nil => exact h
  | cons c r ih => exact ih h
theorem repZ_ok {zs : List SC} {n : Nat} {K : List SC → Prop} (h : repZ zs n K) : K (List.replicate n zs).flatten := by
  induction n generalizing K with
  | zero => exact h
  | succ n ih =>
    have := appC_ok (ih h)
    rw [List.replicate_succ, List.flatten_cons]; exact this
/-- '[]T{..}': its cells are read for good. -/
def buildSliceX (T : Tab) (t : TypeId) (len : Nat) (parts : List (Nat × Operand)) (F : Fr) (H : Hp) (G : List SB) (K : SV → Hp → List SB → Prop) : Prop :=
  tabX T t fun ti => match ti.k with
    | .slice e => tabX T e fun ei => zerosX ei.zero fun zs => repZ zs len fun cs => evP parts F fun ps => fillX G (.ar ei.size) cs ps fun cs' => allVal cs' fun ys => len * ei.size ≤ 16777216 ∧ pos ei.size
      ((∀ (g : Nat) (H' : Hp), H.Le H' → RdN H' (some ⟨g, 0, none⟩) 0 ys → K (pv (.slice (some ⟨g, 0, none⟩) len len)) H' G) ∨
        (ys.length = len * ei.size ∧ appG G (.row e ei.size len ys) fun G' j => K (.si (.ce (.self j))) H G'))
    | _ => False
theorem all2_rep {α β : Type} {R : α → β → Prop} {zs : List α} {ys : List β} (h : All2 R zs ys) : ∀ n, All2 R (List.replicate n zs).flatten (List.replicate n ys).flatten
  | 0 => .nil
  | n + 1 => by rw [List.replicate_succ, List.replicate_succ, List.flatten_cons, List.flatten_cons]; exact h.append (all2_rep h n)
theorem zeroCells_rep (z : Array Value) (n : Nat) : ((Array.range (n * z.size)).map (z[· % z.size]!)) = ((List.replicate n z.toList).flatten).toArray := by
  apply Array.ext'
  rw [Array.toList_map, Array.toList_range]
  simp only
  have key : ∀ n, (List.range (n * z.size)).map (fun i => z[i % z.size]!) = (List.replicate n z.toList).flatten := by
    intro n
    induction n with
    | zero => simp
    | succ n ih =>
      rw [List.replicate_succ', List.flatten_append, ← ih, Nat.succ_mul, List.range_add, List.map_append]
      congr 1
      simp only [List.flatten_cons, List.flatten_nil, List.append_nil, List.map_map]
      apply List.ext_getElem
      · simp
      · intro i h1 h2
        simp at h1
        simp [Nat.mod_eq_of_lt h1, h1]
  exact key n
theorem buildSliceX_ok {T : Tab} (hT : TabOk P T) {o : Oper} {t : TypeId} {len : Nat} {parts : Array (Nat × Operand)} (ho : o.op = .buildSlice t len parts) {F : Fr} {H : Hp} {G : List SB} {K : SV → Hp → List SB → Prop} {Kp : List PanicEntry → Hp → List SB → Prop}
    (h : buildSliceX T t len parts.toList F H G K) : LO P o F H G K Kp := by
  obtain ⟨ti, ht, h⟩ := tabX_ok hT h
  cases hk : ti.k with
  | slice e =>
    simp only [hk] at h
    obtain ⟨ei, he, h⟩ := tabX_ok hT h
    obtain ⟨zs, h, hz⟩ := zerosX_ok h
    have h := repZ_ok h
    obtain ⟨ps, h, hps⟩ := evP_ok h
    obtain ⟨cs', h, hfill⟩ := fillX_ok h
    obtain ⟨ys, ⟨hlim, h⟩, hys⟩ := allVal_ok h
    obtain ⟨hpos, h⟩ := pos_ok h
    intro w0 M hgd H0 ρ a w hs hf
    obtain ⟨i, z, hi, h1, h2, h3, h4⟩ := he.info
    obtain ⟨ys', hfl, hy'⟩ := hfill ρ H w _ _ hs.sw (all2_rep (hz ρ) len) (hps ρ a hf)
    obtain rfl := hys ρ ys' hy'
    have hzl : z.cells.size = ei.size := by rw [← Array.length_toList, h4, List.length_map, he.zlen]
    have hrun : (execOp a.eval o).run P w = .ok (.value (.slice (some ⟨w.heap.size, 0, none⟩) len len)) { w with heap := w.heap.push (.cells ys'.toArray e (0, 0)) } := by
      have hzz := zeroCells_rep z.cells len
      rw [hzl, h4] at hzz
      have hne : ¬ (16777216 < len * ei.size) := by omega
      have hfl' : Instr.fill (fun i => some (i * ei.size, ei.size)) ((List.replicate len (ei.zero.map Z.val)).flatten).toArray (parts.toList.map fun x => (x.fst, a.eval x.snd)) = some ys'.toArray := hfl
      by_cases hlen : len * ei.size = 0
      · have hl0 : len = 0 := by
          rcases Nat.mul_eq_zero.1 hlen with h | h
          · exact h
          · exact absurd h hpos
        subst hl0
        have e0 : (Array.map (fun _ => (default : Value)) (Array.range 0)) = #[] := by simp
        simp only [List.replicate_zero, List.flatten_nil] at hfl'
        simp [execOp, ho, Instr.buildSlice, run_underlying (ht.slice hk), he.sizeOf w, newRow, newObj]
        rw [e0, hfl']
        rfl
      · simp [execOp, ho, Instr.buildSlice, run_underlying (ht.slice hk), he.sizeOf w, hne, hlen, zeroValue, typeInfo, hi, h3, hzl, newRow, newObj]
        rw [hzz, hfl']
        rfl
    rw [hrun]
    rcases h with h | h
    · refine ⟨_, ρ, H.put w.heap.size ys', G, hs.lay (Hp.put_le hs.fresh) ?_, .refl _, pv_is _ _, Hp.put_le hs.fresh, h w.heap.size _ (Hp.put_le hs.fresh) Hp.put_rd⟩
      intro b j v ev
      rcases Hp.put_inv ev with ev2 | ⟨rfl, ev2⟩
      · exact .inl ev2
      · refine .inr ⟨rfl, ?_⟩
        simp only [World.cell?, heap_push_new]
        simpa using ev2
    · obtain ⟨hyl, h⟩ := h
      have h5 := appG_ok h
      refine ⟨_, ρ ++ [.slice (some ⟨w.heap.size, 0, none⟩) len len], H, _, hs.new (s := .row e ei.size len ys') ⟨hyl, .inr ⟨w.heap.size, 0, len, _, rfl, heap_push_new, by omega, by have := Nat.le_mul_of_pos_right len (Nat.pos_of_ne_zero hpos); simp only [maxLen]; omega, ?_, ?_⟩⟩ rfl, Pre.append _ _, ?_, .refl _, h5⟩
      · simp [hyl]
      · rw [List.drop_zero]; exact List.take_of_length_le (by simp [hyl])
      · show (ρ ++ [_])[G.length]? = some _
        rw [List.getElem?_append_right (by rw [hs.len]; exact Nat.le_refl _)]
        simp [hs.len]
  | _ => simp only [hk] at h
end
end Go.Kx
