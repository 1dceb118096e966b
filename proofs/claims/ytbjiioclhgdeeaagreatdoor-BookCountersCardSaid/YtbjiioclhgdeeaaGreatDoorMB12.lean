/- BookCounters: what the row says of the program's text. No condition of its own. -/
import Derived.Test.YtbjiioclhgdeeaaGreatDoorMB11
import Derived.JoinedOf
import Derived.Maps.RangeRun
namespace Go.Proofs.YtbjiioclhgdeeaaGreatDoor.RowBookCounters
open Go.Deep Go.ChangeMaps Go.ChangeShapes Go.WideShapes Go.ChangeAt Go.RowKit Go.Kx Go.Proofs RowLaid
set_option maxRecDepth 100000
theorem k0 : (Rows.bookCountersRow.wf (OpenSpec.ofChange Rows.bookCountersSpec)) = true := by kernel_rfl
theorem k2 : (mapsRowed Tryz.pinned.checked.prog) = true := by kernel_rfl
theorem k3 : (Tryz.f3.params.all (Tryz.pinned.checked.prog.readableRec ·)) = true := by kernel_rfl
theorem k4 : (namedTie Tryz.pinned.checked.prog Rows.bookCountersRow.named Rows.bookCountersSpec.vars) = true := by kernel_rfl
theorem k5 : ((Rows.bookCountersRow.stops == [])) = true := by kernel_rfl
theorem k6 : ((Tryz.pinned.checked.prog.stops == [])) = true := by kernel_rfl
theorem k7 : ((Rows.bookCountersRow.knobs == [])) = true := by kernel_rfl
theorem k8 : ((Tryz.pinned.checked.prog.stopKnobs == [])) = true := by kernel_rfl
theorem k9 : ((Rows.bookCountersRow.inPlace == Tryz.pinned.checked.prog.inPlace (3 : FuncId))) = true := by kernel_rfl
theorem k10 : ((Rows.bookCountersRow.unfollowed == Tryz.pinned.checked.prog.unfollowed (3 : FuncId))) = true := by kernel_rfl
theorem k11 : ((Rows.bookCountersRow.recurses == Tryz.pinned.checked.prog.recurses (3 : FuncId))) = true := by kernel_rfl
theorem k12 : ((Rows.bookCountersRow.named == Tryz.pinned.checked.prog.varsNamed (3 : FuncId))) = true := by kernel_rfl
theorem k13 : ((Rows.bookCountersRow.maps == (Tryz.f3.params.toList ++ Rows.bookCountersSpec.plain.varTypes Tryz.pinned.checked.prog).any (Tryz.pinned.checked.prog.mapsRec ·))) = true := by kernel_rfl
theorem k14 : ((Rows.bookCountersRow.ifaces == (Tryz.f3.params.toList ++ Rows.bookCountersSpec.plain.varTypes Tryz.pinned.checked.prog).any (Tryz.pinned.checked.prog.ifacesRec ·))) = true := by kernel_rfl
theorem k15 : ((Rows.bookCountersRow.mapsOut == Tryz.pinned.checked.prog.mapsAmong Tryz.f3.resultTypes.toList)) = true := by kernel_rfl
theorem k16 : ((Rows.bookCountersRow.loops == (Tryz.f3.params.toList ++ Rows.bookCountersSpec.plain.varTypes Tryz.pinned.checked.prog).any (Tryz.pinned.checked.prog.loopsFrom ·))) = true := by kernel_rfl
theorem k17 : ((Rows.bookCountersRow.wideKeys == (Tryz.f3.params.toList ++ Rows.bookCountersSpec.plain.varTypes Tryz.pinned.checked.prog ++ Tryz.f3.resultTypes.toList).any (Tryz.pinned.checked.prog.wideKeysFrom ·))) = true := by kernel_rfl
theorem k18 : (Rows.bookCountersSpec.vars.all (Tryz.pinned.checked.prog.varReadable ·)) = true := by kernel_rfl
theorem k19 : (Tryz.f3.resultTypes.all (fun t => Tryz.pinned.checked.prog.readableRec t && decide (t < Tryz.pinned.checked.prog.types.size))) = true := by kernel_rfl
theorem k20 : ((Rows.bookCountersRow.ifacesOut == Tryz.f3.resultTypes.toList.any (Tryz.pinned.checked.prog.ifacesRec ·))) = true := by kernel_rfl
theorem k21 : ((Rows.bookCountersRow.loopsOut == Tryz.f3.resultTypes.toList.any (Tryz.pinned.checked.prog.loopsFrom ·))) = true := by kernel_rfl
theorem k22 : ((Rows.bookCountersRow.plainKeys == Tryz.pinned.checked.prog.plainKeys)) = true := by kernel_rfl
theorem k23 : (Rows.bookCountersRow.shortTexts.isNone) = true := by kernel_rfl
theorem k24 : (Tryz.pinned.checked.prog.stopsHeard) = true := by kernel_rfl
theorem k25 : (Tryz.pinned.checked.prog.mayEnter) = true := by kernel_rfl
theorem k26 : ((Rows.bookCountersRow.lifted == Tryz.pinned.checked.prog.liftsFinal)) = true := by kernel_rfl
theorem k27 : ((Tryz.pinned.checked.prog.make == some Rows.bookCountersRow.make)) = true := by kernel_rfl
theorem k28 : ((Rows.bookCountersRow.kinds == (if Rows.bookCountersRow.domain.isEmpty then [] else Tryz.f3.params.toList.map fun t => match Tryz.pinned.checked.prog.underlying t with | some (.int k) => some k | _ => none))) = true := by kernel_rfl
theorem k29 : ((Rows.bookCountersRow.pinned == Rows.bookCountersRow.pinnedBy)) = true := by kernel_rfl
theorem k30 : ((Rows.bookCountersRow.veiled == (Tryz.f3.params.toList ++ Rows.bookCountersSpec.plain.varTypes Tryz.pinned.checked.prog ++ Tryz.f3.resultTypes.toList).any (Tryz.pinned.checked.prog.veiledRec ·))) = true := by kernel_rfl
theorem k31 : (Rows.bookCountersRow.veiledFits Tryz.pinned.checked.prog Tryz.f3.params.toList (Tryz.f3.params.toList ++ Rows.bookCountersSpec.plain.varTypes Tryz.pinned.checked.prog ++ Tryz.f3.resultTypes.toList)) = true := by kernel_rfl
theorem closed : joinedFacts Tryz.pinned.checked.prog 3 Tryz.f3 Rows.bookCountersSpec Rows.bookCountersRow = true := by
 unfold joinedFacts
 simp only [Bool.and_eq_true]
 exact ⟨⟨⟨⟨⟨⟨⟨⟨⟨⟨⟨⟨⟨⟨⟨⟨⟨⟨⟨⟨⟨⟨⟨⟨⟨⟨⟨⟨⟨⟨⟨k0, laidOut⟩, k2⟩, k3⟩, k4⟩, k5⟩, k6⟩, k7⟩, k8⟩, k9⟩, k10⟩, k11⟩, k12⟩, k13⟩, k14⟩, k15⟩, k16⟩, k17⟩, k18⟩, k19⟩, k20⟩, k21⟩, k22⟩, k23⟩, k24⟩, k25⟩, k26⟩, k27⟩, k28⟩, k29⟩, k30⟩, k31⟩
theorem vars (os : Os) : ((laidWorld os).forCall (fun _ _ => 0) ⟨#[], #[.int .i64 0, .slice Option.none 0 0, .slice Option.none 0 0], []⟩).variablesB Tryz.prog = true := by kernel_rfl
end Go.Proofs.YtbjiioclhgdeeaaGreatDoor.RowBookCounters
namespace Go.Kx
open Go.RowKit Go.MapKept
section
variable {P : Program}
noncomputable def findE (kv : Value) : List (Value × SC × Nat) → Option SC
 | [] => none
 | p :: l => open Classical in if p.1 = kv then some p.2.1 else findE kv l
theorem findE_self {kv : Value} {c : SC} {n : Nat} {l : List (Value × SC × Nat)} : findE kv ((kv, c, n) :: l) = some c := by simp [findE]
theorem findE_ne {kv k : Value} {c : SC} {n : Nat} {l : List (Value × SC × Nat)} (h : k ≠ kv) : findE kv ((k, c, n) :: l) = findE kv l := by simp [findE, h]
theorem ent_find {ρ : List Value} {kv : Value} : ∀ {l : List (Value × SC × Nat)} {es : List MapEntry}, All2 (EntOne ρ) l es →
  (findE kv l = none ∧ ∀ x ∈ es, x.key ≠ kv) ∨ (∃ c x, findE kv l = some c ∧ x ∈ es ∧ x.key = kv ∧ c.Is ρ x.val)
 | [], _, h => by cases h; exact .inl ⟨rfl, fun x hx => by simp at hx⟩
 | p :: l, _, h => by
  cases h with | cons h1 h2 =>
  rename_i e es
  by_cases hp : p.1 = kv
  ·refine .inr ⟨p.2.1, e, by simp [findE, hp], List.mem_cons_self, h1.1.trans hp, h1.2.1⟩
  ·rcases ent_find (kv := kv) h2 with ⟨a, b⟩ | ⟨c, x, a, b, d⟩
   ·refine .inl ⟨by simp [findE, hp, a], fun x hx => ?_⟩
    rcases List.mem_cons.1 hx with rfl | hx
    ·rw [h1.1]; exact hp
    ·exact b x hx
   ·exact .inr ⟨c, x, by simp [findE, hp, a], List.mem_cons_of_mem _ b, d⟩
theorem key_uniq {es : Array MapEntry} {c : Nat} (h : Stamped es c) {x y : MapEntry} (hx : x ∈ es.toList) (hy : y ∈ es.toList) (e : x.key = y.key) : x = y := by
 obtain ⟨i, hi⟩ := List.mem_iff_getElem?.1 hx
 obtain ⟨j, hj⟩ := List.mem_iff_getElem?.1 hy
 have hn := h.2.2
 have hi' : (es.toList.map (·.key))[i]? = some x.key := by simp [show es[i]? = some x by simpa using hi]
 have hj' : (es.toList.map (·.key))[j]? = some x.key := by simp [show es[j]? = some y by simpa using hj, e]
 have := (List.getElem?_inj (List.getElem?_eq_some_iff.1 hi').1 hn).1 (hi'.trans hj'.symm)
 subst this
 rw [hi] at hj; injection hj
theorem LO.upd0 {o : Oper} {t kt et : TypeId} {m k x : Operand} (ho : o.op = .mapUpdate t m k x) (hu : P.underlying t = some (.map kt et)) {d : TypeDesc} (hd : P.underlying kt = some d) {F : Fr} {H : Hp} {G : List SB} {K : SV → Hp → List SB → Prop} {Kp : List PanicEntry → Hp → List SB → Prop}
  (b : Nat) (kv : Value) (sc : SC) {f : Value → Option Value} (hb : G[b]? = some (.map d 0 f)) (hk : IsKey d kv) (hx : evX m F fun sm => evX k F fun sk => evX x F fun sv => sm = .si (.ce (.self b)) ∧ sk = .si (.ce (.val kv)) ∧ sv = .si (.ce sc))
  (h : ∀ c, K (pv undef) H (G.set b (.ent d (c + 1) [(kv, sc, c)]))) : LO P o F H G K Kp := by
 obtain ⟨sm, hx, hm⟩ := evX_ok hx
 obtain ⟨sk, hx, hkk⟩ := evX_ok hx
 obtain ⟨sv, ⟨rfl, rfl, rfl⟩, hxx⟩ := evX_ok hx
 intro w0 M hgd H0 ρ a w hs hf
 have hρ : ρ[b]? = some (a.eval m) := hm ρ a hf
 obtain ⟨g, es, c, e1, hh, hmi⟩ := hs.ok b _ (a.eval m) hb hρ
 obtain rfl : es = #[] := Array.eq_empty_of_size_eq_zero hmi.size
 have e2 : a.eval k = kv := hkk ρ a hf
 have e3 : sc.Is ρ (a.eval x) := hxx ρ a hf
 have hrun : (execOp a.eval o).run P w = .ok .skip { w with heap := w.heap.setIfInBounds g (.map #[{ key := kv, val := a.eval x, born := c }] (c + 1)) } := by
  simp [execOp, ho, Instr.mapUpdate, run_underlying hu, e1, e2, MapKept.run_getObj_map hh, MapKept.run_checkKey hd hk, MapKept.run_findKey (l := []) hd (show Instr.findNow d kv [] 0 = some none from rfl), MapKept.run_setObj_map _ hh, Result.andThen]
 rw [hrun]
 refine ⟨_, ρ, H, _, hs.turn (g := g) hb hρ (by rw [e1]; rfl) rfl rfl rfl (by simp) (fun j _ hne => (heap_set hh).2 j hne) (s' := .ent d (c + 1) [(kv, sc, c)]) ⟨g, _, e1, (heap_set hh).1, ?_, ?_, .cons ⟨rfl, e3, rfl⟩ .nil⟩ (.inl (by rw [e1]; rfl)), .refl _, pv_is _ _, .refl _, h c⟩
 ·exact stamped_push hmi.stamped (fun x hx => by simp at hx)
 ·intro x hx
  simp at hx; subst hx; exact hk
theorem all2_push {α β : Type} {R : α → β → Prop} {l : List α} {es : Array β} (h : All2 R l es.toList) {a : α} {b : β} (hr : R a b) : All2 R (l ++ [a]) (es.push b).toList := by
 rw [Array.toList_push]; exact h.append (.cons hr .nil)
theorem LO.updE {o : Oper} {t kt et : TypeId} {m k x : Operand} (ho : o.op = .mapUpdate t m k x) (hu : P.underlying t = some (.map kt et)) {d : TypeDesc} (hd : P.underlying kt = some d) {F : Fr} {H : Hp} {G : List SB} {K : SV → Hp → List SB → Prop} {Kp : List PanicEntry → Hp → List SB → Prop}
  (b : Nat) (kv : Value) (sc : SC) {c : Nat} {l : List (Value × SC × Nat)} (hb : G[b]? = some (.ent d c l)) (hk : IsKey d kv) (hno : findE kv l = none) (hx : evX m F fun sm => evX k F fun sk => evX x F fun sv => sm = .si (.ce (.self b)) ∧ sk = .si (.ce (.val kv)) ∧ sv = .si (.ce sc))
  (h : K (pv undef) H (G.set b (.ent d (c + 1) (l ++ [(kv, sc, c)])))) : LO P o F H G K Kp := by
 obtain ⟨sm, hx, hm⟩ := evX_ok hx
 obtain ⟨sk, hx, hkk⟩ := evX_ok hx
 obtain ⟨sv, ⟨rfl, rfl, rfl⟩, hxx⟩ := evX_ok hx
 intro w0 M hgd H0 ρ a w hs hf
 have hρ : ρ[b]? = some (a.eval m) := hm ρ a hf
 obtain ⟨g, es, e1, hh, hst, hks, hall⟩ := hs.ok b _ (a.eval m) hb hρ
 have e2 : a.eval k = kv := hkk ρ a hf
 have e3 : sc.Is ρ (a.eval x) := hxx ρ a hf
 have hne : ∀ y ∈ es.toList, y.key ≠ kv := by
  rcases ent_find (kv := kv) hall with ⟨_, h2⟩ | ⟨_, _, h2, _⟩
  ·exact h2
  ·rw [hno] at h2; cases h2
 rcases findNow_spec hk es.toList 0 hks with ⟨h1, h2⟩ | ⟨j, e, _, h2, h3⟩
 ·have hrun : (execOp a.eval o).run P w = .ok .skip { w with heap := w.heap.setIfInBounds g (.map (es.push { key := kv, val := a.eval x, born := c }) (c + 1)) } := by
   simp [execOp, ho, Instr.mapUpdate, run_underlying hu, e1, e2, MapKept.run_getObj_map hh, MapKept.run_checkKey hd hk, MapKept.run_findKey hd h1, MapKept.run_setObj_map _ hh, Result.andThen]
  rw [hrun]
  refine ⟨_, ρ, H, _, hs.turn (g := g) hb hρ (by rw [e1]; rfl) rfl rfl rfl (by simp) (fun j _ hne => (heap_set hh).2 j hne) (s' := .ent d (c + 1) (l ++ [(kv, sc, c)])) ⟨g, _, e1, (heap_set hh).1, stamped_push hst hne, ?_, all2_push hall ⟨rfl, e3, rfl⟩⟩ (.inl (by rw [e1]; rfl)), .refl _, pv_is _ _, .refl _, h⟩
  intro x hx
  rw [Array.toList_push] at hx
  rcases List.mem_append.1 hx with hx | hx
  ·exact hks x hx
  ·simp at hx; subst hx; exact hk
 ·exact absurd h3 (hne e (List.mem_of_getElem? h2))
theorem LO.lookE {o : Oper} {t kt et : TypeId} {m k : Operand} (ho : o.op = .lookup t m k true) (hu : P.underlying t = some (.map kt et)) {d : TypeDesc} (hd : P.underlying kt = some d) (hz : ∀ w, (zeroValue et).run P w = .ok (.pointer none) w) {F : Fr} {H : Hp} {G : List SB} {K : SV → Hp → List SB → Prop} {Kp : List PanicEntry → Hp → List SB → Prop}
  (b : Nat) (kv : Value) {c : Nat} {l : List (Value × SC × Nat)} (hb : G[b]? = some (.ent d c l)) (hk : IsKey d kv) (hx : evX m F fun sm => evX k F fun sk => sm = .si (.ce (.self b)) ∧ sk = .si (.ce (.val kv)))
  (h : match findE kv l with
   | none => K (.tu [.ce (.val (.pointer none)), .ce (.val (.bool false))]) H G
   | some sc => K (.tu [.ce sc, .ce (.val (.bool true))]) H G) : LO P o F H G K Kp := by
 obtain ⟨sm, hx, hm⟩ := evX_ok hx
 obtain ⟨sk, ⟨rfl, rfl⟩, hkk⟩ := evX_ok hx
 intro w0 M hgd H0 ρ a w hs hf
 have hρ : ρ[b]? = some (a.eval m) := hm ρ a hf
 obtain ⟨g, es, e1, hh, hst, hks, hall⟩ := hs.ok b _ (a.eval m) hb hρ
 have e2 : a.eval k = kv := hkk ρ a hf
 rcases findNow_spec hk es.toList 0 hks with ⟨h1, h2⟩ | ⟨j, e, h1, h2, h3⟩
 ·have hrun : (execOp a.eval o).run P w = .ok (.value (.tuple #[.pointer none, .bool false])) w := by
   simp [execOp, ho, Instr.lookup, run_underlying hu, e1, e2, MapKept.run_getObj_map hh, MapKept.run_checkKey hd hk, MapKept.run_findKey hd h1, Result.andThen, hz]
  rw [hrun]
  rcases ent_find (kv := kv) hall with ⟨h3, _⟩ | ⟨_, x, _, h4, h5, _⟩
  ·rw [h3] at h
   exact ⟨.tu [.ce (.val (.pointer none)), .ce (.val (.bool false))], ρ, H, G, hs, .refl _, ⟨_, rfl, .cons rfl (.cons rfl .nil)⟩, .refl _, h⟩
  ·exact absurd h5 (h2 x h4)
 ·have hrun : (execOp a.eval o).run P w = .ok (.value (.tuple #[e.val, .bool true])) w := by
   simp [execOp, ho, Instr.lookup, run_underlying hu, e1, e2, MapKept.run_getObj_map hh, MapKept.run_checkKey hd hk, MapKept.run_findKey hd h1, Result.andThen]
  rw [hrun]
  have hme := List.mem_of_getElem? h2
  rcases ent_find (kv := kv) hall with ⟨_, h4⟩ | ⟨sc, x, h4, h5, h6, h7⟩
  ·exact absurd h3 (h4 e hme)
  ·rw [h4] at h
   have hxe := key_uniq hst h5 hme (h6.trans h3.symm)
   subst hxe
   exact ⟨.tu [.ce sc, .ce (.val (.bool true))], ρ, H, G, hs, .refl _, ⟨_, rfl, .cons h7 (.cons rfl .nil)⟩, .refl _, h⟩
theorem LO.rangeE {o : Oper} {t kt et : TypeId} {m : Operand} (ho : o.op = .range t m) (hu : P.underlying t = some (.map kt et)) {d : TypeDesc} {F : Fr} {H : Hp} {G : List SB} {K : SV → Hp → List SB → Prop} {Kp : List PanicEntry → Hp → List SB → Prop}
  (b : Nat) {c : Nat} {l : List (Value × SC × Nat)} (hb : G[b]? = some (.ent d c l)) (hx : evX m F fun sm => sm = .si (.ce (.self b)))
  (h : (∀ x ∈ l, x.2.2 < c) → K (.si (.ce (.ptr G.length 0))) H (G ++ [.itr b c [] c])) : LO P o F H G K Kp := by
 obtain ⟨sm, rfl, hm⟩ := evX_ok hx
 intro w0 M hgd H0 ρ a w hs hf
 have hρ : ρ[b]? = some (a.eval m) := hm ρ a hf
 obtain ⟨g, es, e1, hh, hst, hks, hall⟩ := hs.ok b _ (a.eval m) hb hρ
 have hrun : (execOp a.eval o).run P w = .ok (.value (.pointer (some ⟨w.heap.size, 0, none⟩))) { w with heap := w.heap.push (.mapIter (some g) c #[] c) } := by
  simp [execOp, ho, e1, run_range_map w t kt et g es c hu hh, Result.andThen]
 rw [hrun]
 have hl : ∀ {l : List (Value × SC × Nat)} {es : List MapEntry}, All2 (EntOne ρ) l es → (∀ x ∈ es, x.born < c) → ∀ x ∈ l, x.2.2 < c := by
  intro l es h
  induction h with
  | nil => intro _ x hx; simp at hx
  | cons h1 _ ih =>
   intro hb x hx
   rcases List.mem_cons.1 hx with rfl | hx
   ·rw [← h1.2.2]; exact hb _ List.mem_cons_self
   ·exact ih (fun y hy => hb y (List.mem_cons_of_mem _ hy)) x hx
 have hlt := List.getElem?_eq_some_iff.1 hρ
 refine ⟨_, ρ ++ [.pointer (some ⟨w.heap.size, 0, none⟩)], H, _, hs.new (s := .itr b c [] c) ⟨_, g, rfl, ?_, heap_push_new⟩ rfl, Pre.append _ _, ?_, .refl _, h (hl hall hst.1)⟩
 ·rw [List.getElem?_append_left hlt.1, hρ, e1]
 ·refine ⟨.pointer (some ⟨w.heap.size, 0, none⟩), ?_, rfl⟩
  rw [← hs.len]; simp
theorem LO.nextE {o : Oper} {it : Operand} (ho : o.op = .next it false) {d : TypeDesc} {F : Fr} {H : Hp} {G : List SB} {K : SV → Hp → List SB → Prop} {Kp : List PanicEntry → Hp → List SB → Prop}
  (j b : Nat) {since last c : Nat} {seen : List Nat} {l : List (Value × SC × Nat)} (hj : G[j]? = some (.itr b since seen last)) (hb : G[b]? = some (.ent d c l)) (hx : evX it F fun s => s = .si (.ce (.ptr j 0)))
  (hold : ∀ x ∈ l, x.2.2 < since) (hsc : since ≤ last)
  (h0 : (∀ x ∈ l, x.2.2 ∈ seen) → K (.tu [.ce (.val (.bool false))]) H G)
  (h1 : ∀ x ∈ l, x.2.2 ∉ seen → K (.tu [.ce (.val (.bool true)), .ce (.val x.1), .ce x.2.1]) H (G.set j (.itr b since (seen ++ [x.2.2]) c))) : LO P o F H G K Kp := by
 obtain ⟨sm, rfl, hm⟩ := evX_ok hx
 intro w0 M hgd H0 ρ a w hs hf
 obtain ⟨r, hr, hpt⟩ := hm ρ a hf
 obtain ⟨g, m, rfl, hρ, hit⟩ := hs.ok j _ r hj hr
 have e1 : a.eval it = .pointer (some ⟨g, 0, none⟩) := by simp [ptrAt] at hpt; exact hpt.symm
 obtain ⟨g2, es, e2, hh, hst, hks, hall⟩ := hs.ok b _ _ hb hρ
 injection e2 with e2; injection e2 with e2; subst e2
 have hes : ∀ {l : List (Value × SC × Nat)} {es : List MapEntry}, All2 (EntOne ρ) l es → (∀ e ∈ es, ∃ x ∈ l, EntOne ρ x e) ∧ (∀ x ∈ l, ∃ e ∈ es, EntOne ρ x e) := by
  intro l es h
  induction h with
  | nil => exact ⟨fun e he => by simp at he, fun e he => by simp at he⟩
  | cons h1 _ ih =>
   refine ⟨fun e he => ?_, fun e he => ?_⟩
   ·rcases List.mem_cons.1 he with rfl | he
    ·exact ⟨_, List.mem_cons_self, h1⟩
    ·obtain ⟨x, hx, hxe⟩ := ih.1 e he; exact ⟨x, List.mem_cons_of_mem _ hx, hxe⟩
   ·rcases List.mem_cons.1 he with rfl | he
    ·exact ⟨_, List.mem_cons_self, h1⟩
    ·obtain ⟨x, hx, hxe⟩ := ih.2 e he; exact ⟨x, List.mem_cons_of_mem _ hx, hxe⟩
 have hes := hes hall
 have hold' : ∀ x ∈ es.toList, x.born < since := fun x hx => by
  obtain ⟨y, hy, hyx⟩ := hes.1 x hx
  rw [hyx.2.2]; exact hold y hy
 rcases run_next_at (P := P) w o.type g m since last seen.toArray es c hit hh hold' hsc with ⟨hsz, hrun⟩ | ⟨e, he, w1, hw1, hrun⟩
 ·have hrun' : (execOp a.eval o).run P w = .ok (.value (.tuple #[.bool false])) w := by
   simp [execOp, ho, e1, hrun, Result.andThen]
  rw [hrun']
  refine ⟨.tu [.ce (.val (.bool false))], ρ, H, G, hs, .refl _, ⟨[.bool false], rfl, .cons rfl .nil⟩, .refl _, h0 fun x hx => ?_⟩
  obtain ⟨e, he, hxe⟩ := hes.2 x hx
  have hem : leftOf es seen.toArray = #[] := Array.eq_empty_of_size_eq_zero hsz
  unfold leftOf at hem
  rw [Array.filter_eq_empty_iff] at hem
  have := hem e (by simpa using he)
  rw [← hxe.2.2]
  simpa using this
 ·have hrun' : (execOp a.eval o).run P w = .ok (.value (.tuple #[.bool true, e.key, e.val])) (Go.ChangeMaps.setBlock w1 g (.mapIter (some m) since (seen.toArray.push e.born) c)) := by
   simp [execOp, ho, e1, hrun, Result.andThen]
  rw [hrun']
  unfold leftOf at he
  simp only [Array.toList_filter, List.mem_filter, Array.mem_toList_iff] at he
  obtain ⟨x, hx, hxe⟩ := hes.1 e (by simpa using he.1)
  have hnot : x.2.2 ∉ seen := by rw [← hxe.2.2]; simpa using he.2
  have hs1 : St w0 M H0 ρ H G w1 := by
   rcases hw1 with rfl | rfl
   ·exact hs
   ·exact hs.drew _
  have hh1 : w1.heap[g]? = some (.mapIter (some m) since seen.toArray last) := by rcases hw1 with rfl | rfl <;> exact hit
  refine ⟨.tu [.ce (.val (.bool true)), .ce (.val x.1), .ce x.2.1], ρ, H, _, hs1.turn (g := g) hj hr rfl (w' := Go.ChangeMaps.setBlock w1 g (.mapIter (some m) since (seen.toArray.push e.born) c)) rfl rfl rfl (by simp [Go.ChangeMaps.setBlock]) (fun j _ hne => (heap_set hh1).2 j hne) (s' := .itr b since (seen ++ [x.2.2]) c) ⟨g, m, rfl, hρ, ?_⟩ (.inl rfl), .refl _, ⟨_, rfl, .cons rfl (.cons hxe.1 (.cons hxe.2.1 .nil))⟩, .refl _, h1 x hx hnot⟩
  have := (heap_set hh1 (o' := Obj.mapIter (some m) since (seen.toArray.push e.born) c)).1
  rw [show (seen ++ [x.2.2]).toArray = seen.toArray.push e.born by rw [hxe.2.2]; simp]
  exact this
theorem LO.entryE {o : Oper} {it : Operand} (ho : o.op = .entry it) {d : TypeDesc} {F : Fr} {H : Hp} {G : List SB} {K : SV → Hp → List SB → Prop} {Kp : List PanicEntry → Hp → List SB → Prop}
  (j b : Nat) {since c : Nat} {seen s0 : List Nat} {l : List (Value × SC × Nat)} (hj : G[j]? = some (.itr b since seen c)) (hb : G[b]? = some (.ent d c l)) (hx : evX it F fun s => s = .si (.ce (.ptr j 0)))
  (x : Value × SC × Nat) (hs0 : seen = s0 ++ [x.2.2]) (hm : x ∈ l)
  (h : K (.tu [.ce (.val x.1), .ce x.2.1]) H G) : LO P o F H G K Kp := by
 obtain ⟨sm, rfl, hev⟩ := evX_ok hx
 intro w0 M hgd H0 ρ a w hs hf
 obtain ⟨r, hr, hpt⟩ := hev ρ a hf
 obtain ⟨g, m, rfl, hρ, hit⟩ := hs.ok j _ r hj hr
 have e1 : a.eval it = .pointer (some ⟨g, 0, none⟩) := by simp [ptrAt] at hpt; exact hpt.symm
 obtain ⟨g2, es, e2, hh, hst, hks, hall⟩ := hs.ok b _ _ hb hρ
 injection e2 with e2; injection e2 with e2; subst e2
 have hes : ∀ {l : List (Value × SC × Nat)} {es : List MapEntry}, All2 (EntOne ρ) l es → (∀ x ∈ l, ∃ e ∈ es, EntOne ρ x e) := by
  intro l es h
  induction h with
  | nil => exact fun e he => by simp at he
  | cons h1 _ ih =>
   intro e he
   rcases List.mem_cons.1 he with rfl | he
   ·exact ⟨_, List.mem_cons_self, h1⟩
   ·obtain ⟨x, hx, hxe⟩ := ih e he; exact ⟨x, List.mem_cons_of_mem _ hx, hxe⟩
 obtain ⟨e, he, hxe⟩ := hes hall x hm
 have hit' : w.heap[g]? = some (.mapIter (some m) since (s0.toArray.push e.born) c) := by
  rw [hit, hs0, hxe.2.2]; simp
 have hrun := run_entry_at (P := P) w g m since s0.toArray es c e hit' hh he hst.2.1
 have hrun' : (execOp a.eval o).run P w = .ok (.value (.tuple #[e.key, e.val])) w := by
  simp [execOp, ho, e1, hrun, Result.andThen]
 rw [hrun']
 exact ⟨.tu [.ce (.val x.1), .ce x.2.1], ρ, H, G, hs, .refl _, ⟨_, rfl, .cons hxe.1 (.cons hxe.2.1 .nil)⟩, .refl _, h⟩
end
end Go.Kx
namespace Go.Kx
open Go.RowKit Go.MapKept
def EntsOf (n : Nat) (f : Value → Option Value) (l : List (Value × SC × Nat)) : Prop :=
 l.length = n ∧ (l.map (·.1)).Nodup ∧ (∀ p ∈ l, ∃ v, p.2.1 = .val v ∧ f p.1 = some v) ∧ ∀ kv v, f kv = some v → ∃ p ∈ l, p.1 = kv ∧ p.2.1 = .val v
theorem ents_all2 (ρ : List Value) : ∀ l : List MapEntry, All2 (EntOne ρ) (l.map fun e => (e.key, SC.val e.val, e.born)) l
 | [] => .nil
 | _ :: r => .cons ⟨rfl, rfl, rfl⟩ (ents_all2 ρ r)
theorem St.entOf {w0 : World} {M : Nat → Prop} {H0 : Hp} {ρ : List Value} {H : Hp} {G : List SB} {w : World} (h : St w0 M H0 ρ H G w) {k n : Nat} {d : TypeDesc} {f : Value → Option Value} (hk : G[k]? = some (.map d n f)) :
  ∃ c l, St w0 M H0 ρ H (G.set k (.ent d c l)) w ∧ EntsOf n f l := by
 obtain ⟨r, hr, hok⟩ := h.at hk
 obtain ⟨g, es, c, rfl, hh, hm⟩ := hok
 refine ⟨c, es.toList.map fun e => (e.key, SC.val e.val, e.born), ?_, ?_, ?_, ?_, ?_⟩
 ·exact h.turn (g := g) hk hr rfl (w' := w) rfl rfl rfl (Nat.le_refl _) (fun _ _ _ => rfl) (s' := .ent d c _) ⟨g, es, rfl, hh, hm.stamped, hm.keys, ents_all2 ρ _⟩ (.inl rfl)
 ·rw [List.length_map, Array.length_toList, hm.size]
 ·have := hm.stamped.2.2
  rw [List.map_map]
  exact this
 ·intro p hp
  obtain ⟨e, he, rfl⟩ := List.mem_map.1 hp
  exact ⟨e.val, rfl, (hm.is _ _).2 ⟨e, he, rfl, rfl⟩⟩
 ·intro kv v hf
  obtain ⟨e, he, rfl, rfl⟩ := (hm.is _ _).1 hf
  exact ⟨_, List.mem_map.2 ⟨e, he, rfl⟩, rfl, rfl⟩
theorem ents_val {ρ : List Value} : ∀ {l : List (Value × SC × Nat)} {es : List MapEntry}, All2 (EntOne ρ) l es → ∀ kv v, (∃ p ∈ l, p.1 = kv ∧ p.2.1 = .val v) → ∃ x ∈ es, x.key = kv ∧ x.val = v
 | _, _, .nil, kv, v, ⟨_, h, _⟩ => by cases h
 | _, _, .cons h1 h2, kv, v, ⟨p, hp, e1, e2⟩ => by
  rcases List.mem_cons.1 hp with rfl | hp
  ·refine ⟨_, List.mem_cons_self, h1.1.trans e1, ?_⟩
   have := h1.2.1
   rw [e2] at this
   exact this
  ·obtain ⟨x, hx, h3⟩ := ents_val h2 kv v ⟨p, hp, e1, e2⟩
   exact ⟨x, List.mem_cons_of_mem _ hx, h3⟩
theorem ents_back {ρ : List Value} : ∀ {l : List (Value × SC × Nat)} {es : List MapEntry}, All2 (EntOne ρ) l es → (∀ p ∈ l, ∃ v, p.2.1 = .val v) → ∀ x ∈ es, ∃ p ∈ l, p.1 = x.key ∧ p.2.1 = .val x.val
 | _, _, .nil, _, x, h => by cases h
 | _, _, .cons h1 h2, hv, x, hx => by
  rcases List.mem_cons.1 hx with rfl | hx
  ·obtain ⟨v, e⟩ := hv _ List.mem_cons_self
   have := h1.2.1
   rw [e] at this
   exact ⟨_, List.mem_cons_self, h1.1.symm, by rw [e, show _ = v from this]⟩
  ·obtain ⟨p, hp, h3⟩ := ents_back h2 (fun p hp => hv p (List.mem_cons_of_mem _ hp)) x hx
   exact ⟨p, List.mem_cons_of_mem _ hp, h3⟩
theorem St.mapOf {w0 : World} {M : Nat → Prop} {H0 : Hp} {ρ : List Value} {H : Hp} {G : List SB} {w : World} (h : St w0 M H0 ρ H G w) {k n c : Nat} {d : TypeDesc} {l : List (Value × SC × Nat)} (hk : G[k]? = some (.ent d c l)) {f : Value → Option Value} (hf : EntsOf n f l) :
  St w0 M H0 ρ H (G.set k (.map d n f)) w := by
 obtain ⟨r, hr, hok⟩ := h.at hk
 obtain ⟨g, es, rfl, hh, hst, hks, hall⟩ := hok
 obtain ⟨h1, h2, h3, h4⟩ := hf
 refine h.turn (g := g) hk hr rfl (w' := w) rfl rfl rfl (Nat.le_refl _) (fun _ _ _ => rfl) (s' := .map d n f) ⟨g, es, c, rfl, hh, hst, hks, ?_, fun kv v => ⟨fun hv => ?_, fun hx => ?_⟩⟩ (.inl rfl)
 ·have := hall.length
  rw [h1, Array.length_toList] at this
  exact this.symm
 ·exact ents_val hall kv v (h4 kv v hv)
 ·obtain ⟨x, hx, rfl, rfl⟩ := hx
  obtain ⟨p, hp, e1, e2⟩ := ents_back hall (fun p hp => let ⟨v, e, _⟩ := h3 p hp; ⟨v, e⟩) x hx
  obtain ⟨v, e3, e4⟩ := h3 p hp
  rw [e2] at e3
  injection e3 with e3
  rw [← e1, e4, e3]
section
variable {P : Program} {n e : Nat} {D : Pin}
theorem codeL.entOf {c : Code} {K : KT} {F : Fr} {H : Hp} {G : List SB} (k : Nat) {d : TypeDesc} {m : Nat} {f : Value → Option Value} (hk : G[k]? = some (.map d m f))
  (h : ∀ cl l, EntsOf m f l → codeL P n e D c K F H (G.set k (.ent d cl l))) : codeL P n e D c K F H G :=
 ⟨fun w0 M hgd H0 ρ a w hs hf hd hn => by
  obtain ⟨cl, l, hs2, hl⟩ := hs.entOf hk
  exact (h cl l hl).to w0 M hgd H0 ρ a w hs2 hf hd hn⟩
theorem codeL.mapOf {c : Code} {K : KT} {F : Fr} {H : Hp} {G : List SB} (k : Nat) {d : TypeDesc} {m cl : Nat} {f : Value → Option Value} {l : List (Value × SC × Nat)} (hk : G[k]? = some (.ent d cl l)) (hl : EntsOf m f l)
  (h : codeL P n e D c K F H (G.set k (.map d m f))) : codeL P n e D c K F H G :=
 ⟨fun w0 M hgd H0 ρ a w hs hf hd hn => h.to w0 M hgd H0 ρ a w (hs.mapOf hk hl) hf hd hn⟩
end
end Go.Kx
namespace Go.Kx
open Go.RowKit
def SC.fits (k n : Nat) : SC → Prop
 | .cut j _ lo m => j = k → lo + m ≤ n
 | _ => True
def SG.fits (k n : Nat) : SG → Prop
 | .ce c => c.fits k n
 | .ag l => ∀ c ∈ l, c.fits k n
def SV.fits (k n : Nat) : SV → Prop
 | .si c => c.fits k n
 | .tu l => ∀ c ∈ l, c.fits k n
def SB.fits (k n : Nat) : SB → Prop
 | .box _ cs => ∀ c ∈ cs, c.fits k n
 | _ => True
section
variable {ρ : List Value} {k : Nat} {x : Value} {n : Nat}
theorem SC.Is.unat (hk : ρ[k]? = some x) (hx : ∃ A cap, x = .slice A n cap) {c : SC} (hc : c.fits k n) {y : Value} (h : (c.at k x).Is ρ y) : c.Is ρ y := by
 cases c with
 | self j =>
  have key : ∀ b : Bool, Nat.beq j k = b → SC.Is ρ (match b with
   | true => SC.val x
   | false => SC.self j) y → SC.Is ρ (.self j) y := by
   intro b hb h2
   cases b with
   | true =>
    have := Nat.eq_of_beq_eq_true hb
    obtain rfl : y = x := h2
    rw [this]
    exact hk
   | false => exact h2
  exact key _ rfl h
 | cut j sz lo m =>
  have key : ∀ b : Bool, Nat.beq j k = b → SC.Is ρ (match b with
   | true => match cutV x sz lo m with
    | some y => SC.val y
    | none => .any
   | false => SC.cut j sz lo m) y → SC.Is ρ (.cut j sz lo m) y := by
   intro b hb h2
   cases b with
   | true =>
    have := Nat.eq_of_beq_eq_true hb
    obtain ⟨A, cap, rfl⟩ := hx
    have hle : lo + m ≤ n := hc this
    have hcv : cutV (.slice A n cap) sz lo m = some (.slice (if cap = lo then A else A.map (·.add (lo * sz))) m (cap - lo)) := if_pos hle
    simp only [hcv] at h2
    obtain rfl : y = _ := h2
    rw [this]
    exact ⟨_, hk, hcv⟩
   | false => exact h2
  exact key _ rfl h
 | _ => exact h
theorem all2_unat {R : SC → Value → Prop} {l : List SC} {ys : List Value} (h : All2 R (l.map (SC.at k x)) ys) (hR : ∀ c ∈ l, ∀ y, R (c.at k x) y → R c y) : All2 R l ys := by
 induction l generalizing ys with
 | nil => cases h; exact .nil
 | cons c l ih => cases h with | cons h1 h2 => exact .cons (hR c List.mem_cons_self _ h1) (ih h2 fun d hd => hR d (List.mem_cons_of_mem _ hd))
theorem SG.Is.unat (hk : ρ[k]? = some x) (hx : ∃ A cap, x = .slice A n cap) {c : SG} (hc : c.fits k n) {y : Value} (h : (c.at k x).Is ρ y) : c.Is ρ y := by
 cases c with
 | ce c => exact SC.Is.unat hk hx hc h
 | ag l => obtain ⟨ys, h1, h2⟩ := h; exact ⟨ys, h1, all2_unat h2 fun c hcm y hy => SC.Is.unat hk hx (hc c hcm) hy⟩
theorem SV.Is.unat (hk : ρ[k]? = some x) (hx : ∃ A cap, x = .slice A n cap) {c : SV} (hc : c.fits k n) {y : Value} (h : (c.at k x).Is ρ y) : c.Is ρ y := by
 cases c with
 | si c => exact SG.Is.unat hk hx hc h
 | tu l =>
  obtain ⟨ys, h1, h2⟩ := h
  refine ⟨ys, h1, ?_⟩
  clear h1
  have hc : ∀ c ∈ l, c.fits k n := hc
  have go : ∀ (l : List SG) (ys : List Value), (∀ c ∈ l, c.fits k n) → All2 (SG.Is ρ) (l.map (SG.at k x)) ys → All2 (SG.Is ρ) l ys := by
   intro l
   induction l with
   | nil => intro ys _ h; cases h; exact .nil
   | cons c l ih => intro ys hc h; cases h with | cons h3 h4 => exact .cons (SG.Is.unat hk hx (hc c List.mem_cons_self) h3) (ih _ (fun d hd => hc d (List.mem_cons_of_mem _ hd)) h4)
  exact go l ys hc h2
theorem SB.Ok.unat (hk : ρ[k]? = some x) (hx : ∃ A cap, x = .slice A n cap) {s : SB} (hc : s.fits k n) {w : World} {r : Value} (h : (s.at k x).Ok ρ w r) : s.Ok ρ w r := by
 cases s with
 | box t cs => obtain ⟨g, ys, h1, h2, h3⟩ := h; exact ⟨g, ys, h1, h2, all2_unat h3 fun c hcm y hy => SC.Is.unat hk hx (hc c hcm) hy⟩
 | _ => exact h
end
theorem blkAt_last {ρ : List Value} {G : List SB} (hl : ρ.length = G.length) (x : Value) (s : SB) : blkAt (ρ ++ [x]) (G ++ [s]) G.length = s.blk x := by
 refine blkAt_eq ?_ ?_
 ·simp
 ·rw [← hl]; simp
theorem blkAt_pre {ρ : List Value} {G : List SB} (hl : ρ.length = G.length) (x : Value) (s : SB) {j : Nat} (hj : j < G.length) : blkAt (ρ ++ [x]) (G ++ [s]) j = blkAt ρ G j := by
 unfold blkAt
 rw [List.getElem?_append_left hj, List.getElem?_append_left (by omega)]
theorem St.unlend {w0 w1 : World} {M M1 : Nat → Prop} {H0 H H1 H' : Hp} {ρ : List Value} {G' G2 : List SB} {w : World} {k : Nat} {x : Value} {t : TypeId} {sz n : Nat} {xs : List Value}
  (h : St w0 M H0 (ρ ++ [x]) H (G' ++ [.row t sz n xs]) w1) (h1 : St w M1 H1 ρ H' G' w1) (hk : ρ[k]? = some x) (hx : ∃ A cap, x = .slice A n cap)
  (hG : G' = (G2.set k .dead).map (SB.at k x)) (h2 : G2[k]? = some (.row t sz n xs)) (hf : ∀ s ∈ G2, s.fits k n) : St w0 M H0 ρ H G2 w1 := by
 have hll := h1.len
 have hl : G2.length = G'.length := by rw [hG]; simp
 have hkl := (List.getElem?_eq_some_iff.1 h2).1
 have hat : ∀ j s, j ≠ k → G2[j]? = some s → G'[j]? = some (s.at k x) := fun j s hj hs => by
  rw [hG, List.getElem?_map, List.getElem?_set_ne (fun e => hj e.symm), hs]; rfl
 have hb : ∀ j g, blkAt ρ G2 j = some g → (j = k ∧ (SB.row t sz n xs).blk x = some g) ∨ (j ≠ k ∧ blkAt ρ G' j = some g) := fun j g hg => by
  obtain ⟨s, r, e1, e2, e3⟩ := blkAt_some hg
  by_cases hj : j = k
  ·subst hj
   rw [h2] at e1; injection e1 with e1; subst e1
   rw [hk] at e2; injection e2 with e2; subst e2
   exact .inl ⟨rfl, e3⟩
  ·exact .inr ⟨hj, by rw [blkAt_eq (hat j s hj e1) e2, SB.at_blk]; exact e3⟩
 have hlt : ∀ j g, blkAt ρ G' j = some g → j < G'.length := fun j g hg => by
  obtain ⟨s, r, e1, _, _⟩ := blkAt_some hg
  exact (List.getElem?_eq_some_iff.1 e1).1
 have hlast := blkAt_last hll x (.row t sz n xs)
 refine ⟨h.os, h.tape, h.output, h.size, h.old, h.hle, h.hin, h.hnew, by omega, ?_, ?_, ?_⟩
 ·intro j s r e1 e2
  by_cases hj : j = k
  ·subst hj
   rw [h2] at e1; injection e1 with e1; subst e1
   rw [hk] at e2; injection e2 with e2; subst e2
   have := h.ok G'.length (.row t sz n xs) x (by simp) (by rw [← hll]; simp)
   exact this
  ·exact SB.Ok.unat hk hx (hf s (List.mem_of_getElem? e1)) (h1.ok j _ r (hat j s hj e1) e2)
 ·intro j g hg
  rcases hb j g hg with ⟨rfl, e⟩ | ⟨_, e⟩
  ·exact h.own G'.length g (hlast.trans e)
  ·exact h.own j g ((blkAt_pre hll x _ (hlt j g e)).trans e)
 ·intro i j g hi hj
  rcases hb i g hi with ⟨rfl, e⟩ | ⟨_, e⟩ <;> rcases hb j g hj with ⟨rfl, e'⟩ | ⟨_, e'⟩
  ·rfl
  ·have := h.inj G'.length j g (hlast.trans e) ((blkAt_pre hll x _ (hlt j g e')).trans e')
   have := hlt j g e'
   omega
  ·have := h.inj i G'.length g ((blkAt_pre hll x _ (hlt i g e)).trans e) (hlast.trans e')
   have := hlt i g e
   omega
  ·exact h.inj i j g ((blkAt_pre hll x _ (hlt i g e)).trans e) ((blkAt_pre hll x _ (hlt j g e')).trans e')
theorem St.moveRow {w0 : World} {M : Nat → Prop} {H0 : Hp} {ρ : List Value} {H : Hp} {G : List SB} {w : World} (h : St w0 M H0 ρ H G w) {k b i : Nat} {t t' : TypeId} {cs : List SC} {sz n : Nat} {xs : List Value}
  (hk : G[k]? = some (.row t' sz n xs)) (hb : G[b]? = some (.box t cs)) (hi : cs[i]? = some (.self k)) :
  ∃ r, St w0 M H0 (ρ ++ [r]) H ((G.set k .dead).set b (.box t (cs.set i (.self G.length))) ++ [.row t' sz n xs]) w := by
 obtain ⟨r, hr, hok⟩ := h.at hk
 have hbk : blkAt ρ G k = (SB.row t' sz n xs).blk r := blkAt_eq hk hr
 have hne : k ≠ b := fun e => by subst e; rw [hk] at hb; cases hb
 have h2 := (h.kill k).adopt (s := .row t' sz n xs) (r := r) hok fun g hg => by
  have h3 := h.own k g (hbk.trans hg)
  exact ⟨h3.1, h3.2, fun j hj => (blkAt_dead hj).1 (h.inj j k g (blkAt_dead hj).2 (hbk.trans hg))⟩
 have hbl : b < (G.set k .dead).length := by rw [List.length_set]; exact (List.getElem?_eq_some_iff.1 hb).1
 have hb2 : ((G.set k .dead) ++ [.row t' sz n xs])[b]? = some (.box t cs) := by
  rw [List.getElem?_append_left hbl, List.getElem?_set_ne hne]; exact hb
 have h4 := h2.retell hb2 (cs' := cs.set i (.self G.length)) fun ys hys => all2_set_left hi (fun y hy => by
  have hy' : (ρ ++ [r])[k]? = some y := hy
  rw [List.getElem?_append_left (List.getElem?_eq_some_iff.1 hr).1, hr] at hy'
  injection hy' with hy'
  subst hy'
  show (ρ ++ [r])[G.length]? = some r
  rw [← h.len]; simp) hys
 rw [List.set_append_left _ _ hbl] at h4
 exact ⟨r, h4⟩
section
variable {P : Program} {n e : Nat} {D : Pin}
theorem codeL.moveRow {c : Code} {K : KT} {F : Fr} {H : Hp} {G : List SB} (k b i : Nat) {t t' : TypeId} {cs : List SC} {sz m : Nat} {xs : List Value} (hk : G[k]? = some (.row t' sz m xs)) (hb : G[b]? = some (.box t cs)) (hi : cs[i]? = some (.self k))
  (h : codeL P n e D c K F H ((G.set k .dead).set b (.box t (cs.set i (.self G.length))) ++ [.row t' sz m xs])) : codeL P n e D c K F H G :=
 ⟨fun w0 M hgd H0 ρ a w hs hf hd hn => by
  obtain ⟨r, hs2⟩ := hs.moveRow hk hb hi
  exact wp_mono (h.to w0 M hgd H0 _ a w hs2 (hf.mono (Pre.append _ _)) hd hn) (PostX.le (Pre.append _ _).toE (.refl _))⟩
theorem WS.moveRow {c : Code} {K : KT} {F : Fr} {H : Hp} {G : List SB} (k b i : Nat) {t t' : TypeId} {cs : List SC} {sz m : Nat} {xs : List Value} (hk : G[k]? = some (.row t' sz m xs)) (hb : G[b]? = some (.box t cs)) (hi : cs[i]? = some (.self k))
  (h : WS P n e D c K F H ((G.set k .dead).set b (.box t (cs.set i (.self G.length))) ++ [.row t' sz m xs])) : WS P n e D c K F H G := ⟨(codeL.moveRow k b i hk hb hi (codeL.ofS h)).to⟩
end
section
variable {P : Program}
theorem CallO.moveRow {f : FuncId} {svs : List SV} {H : Hp} {G : List SB} {K0 K : SE → Hp → List SB → Prop} (h : CallO P f svs H G K0)
  (hK : ∀ e H' G', H.Le H' → K0 e H' G' → K e H' G' ∨ ∃ k b i t t' cs sz n xs, G'[k]? = some (.row t' sz n xs) ∧ G'[b]? = some (.box t cs) ∧ cs[i]? = some (.self k) ∧ K e H' ((G'.set k .dead).set b (.box t (cs.set i (.self G'.length))) ++ [.row t' sz n xs])) : CallO P f svs H G K := by
 intro w0 M hgd H0 ρ w vs hs hv
 refine (h w0 M hgd H0 ρ w vs hs hv).mono fun e w' he => ?_
 cases e with
 | returned v =>
  obtain ⟨sv, ρ', H', G', h1, h2, h3, h4, h5⟩ := he
  rcases hK _ _ _ h4 h5 with h6 | ⟨k, b, i, t, t', cs, sz, n, xs, a1, a2, a3, a4⟩
  ·exact ⟨sv, ρ', H', G', h1, h2, h3, h4, h6⟩
  ·obtain ⟨r, h7⟩ := h1.moveRow a1 a2 a3
   exact ⟨sv, _, H', _, h7, h2.trans (Pre.append _ _), h3.mono (Pre.append _ _), h4, a4⟩
 | panicked ch =>
  obtain ⟨ρ', H', G', h1, h2, h4, h5⟩ := he
  rcases hK _ _ _ h4 h5 with h6 | ⟨k, b, i, t, t', cs, sz, n, xs, a1, a2, a3, a4⟩
  ·exact ⟨ρ', H', G', h1, h2, h4, h6⟩
  ·obtain ⟨r, h7⟩ := h1.moveRow a1 a2 a3
   exact ⟨_, H', _, h7, h2.trans (Pre.append _ _), h4, a4⟩
 | outgrown => exact he
theorem CallO.lend {f : FuncId} {svs : List SV} {H : Hp} {G : List SB} {K : SE → Hp → List SB → Prop} (k : Nat) {t : TypeId} {sz n : Nat} {xs : List Value} (hk : G[k]? = some (.row t sz n xs)) (hz : n = 0 → xs = [])
  (h : ∀ x H1, H.Le H1 → Frozen H1 x n xs → CallO P f (svs.map (SV.at k x)) H1 ((G.set k .dead).map (SB.at k x)) fun e _ G' => ∃ G2, G' = (G2.set k .dead).map (SB.at k x) ∧ G2[k]? = some (.row t sz n xs) ∧ (∀ s ∈ G2, s.fits k n) ∧
   match e with
   | .ret v => ∃ v2, v = v2.at k x ∧ v2.fits k n ∧ K (.ret v2) H G2
   | .pan ch => K (.pan ch) H G2) : CallO P f svs H G K := by
 intro w0 M hgd H0 ρ w vs hs hv
 obtain ⟨x, H1, M1, b1, b2, b3, b4, b5, b6⟩ := hs.lend hgd hk hz
 have hx : ∃ A cap, x = .slice A n cap := by
  rcases b3 with ⟨rfl, rfl, _⟩ | ⟨g, o, cap, rfl, _, _⟩
  ·exact ⟨_, _, rfl⟩
  ·exact ⟨_, _, rfl⟩
 refine (h x H1 b2 b3 w M1 b5 H1 ρ w vs (b1.atAll b4) (all2_at b4 hv)).mono fun e w1 he => ?_
 cases e with
 | returned v =>
  obtain ⟨sv, ρ', H', G', c1, c2, c3, c4, G2, c5, c6, c7, v2, rfl, c8, c9⟩ := he
  have hk' := c2 _ _ b4
  exact ⟨v2, ρ', H, G2, St.unlend (b6 ρ' H' G' w1 c1) c1 hk' hx c5 c6 c7, c2, SV.Is.unat hk' hx c8 c3, .refl _, c9⟩
 | panicked ch =>
  obtain ⟨ρ', H', G', c1, c2, c4, G2, c5, c6, c7, c9⟩ := he
  have hk' := c2 _ _ b4
  exact ⟨ρ', H, G2, St.unlend (b6 ρ' H' G' w1 c1) c1 hk' hx c5 c6 c7, c2, .refl _, c9⟩
 | outgrown => exact he
theorem St.recut {w0 : World} {M : Nat → Prop} {H0 : Hp} {ρ : List Value} {H : Hp} {G : List SB} {w : World} (h : St w0 M H0 ρ H G w) {k i j : Nat} {t t' : TypeId} {cs : List SC} {sz n : Nat} {xs : List Value} (hk : G[k]? = some (.box t cs)) (hi : cs[i]? = some (.self j)) (hj : G[j]? = some (.row t' sz n xs)) :
  St w0 M H0 ρ H (G.set k (.box t (cs.set i (.cut j sz 0 n)))) w := by
 refine h.retell hk fun ys hys => all2_set_left hi (fun y hy => ?_) hys
 have hy' : ρ[j]? = some y := hy
 refine ⟨y, hy', ?_⟩
 rcases (h.ok j _ _ hj hy').2 with ⟨rfl, rfl⟩ | ⟨g, o, cap, cur, rfl, _⟩
 ·rfl
 ·show (if 0 + n ≤ n then some _ else none) = _
  rw [if_pos (by omega)]
  congr 2
  split
  ·rfl
  ·rw [Nat.zero_mul, Option.map_some, Addr.add_lit, Nat.add_zero]
theorem CallO.recut {f : FuncId} {svs : List SV} {H : Hp} {G : List SB} {K0 K : SE → Hp → List SB → Prop} (h : CallO P f svs H G K0)
  (hK : ∀ e H' G', H.Le H' → K0 e H' G' → (∃ k i j t cs t' sz n xs, G'[k]? = some (.box t cs) ∧ cs[i]? = some (.self j) ∧ G'[j]? = some (.row t' sz n xs) ∧ K e H' (G'.set k (.box t (cs.set i (.cut j sz 0 n))))) ∨ K e H' G') : CallO P f svs H G K := by
 intro w0 M hgd H0 ρ w vs hs hv
 refine (h w0 M hgd H0 ρ w vs hs hv).mono fun e w' he => ?_
 cases e with
 | returned v =>
  obtain ⟨sv, ρ', H', G', h1, h2, h3, h4, h5⟩ := he
  rcases hK _ _ _ h4 h5 with ⟨k, i, j, t, cs, t', sz, n, xs, a1, a2, a3, a4⟩ | h6
  ·exact ⟨sv, ρ', H', _, h1.recut a1 a2 a3, h2, h3, h4, a4⟩
  ·exact ⟨sv, ρ', H', G', h1, h2, h3, h4, h6⟩
 | panicked ch =>
  obtain ⟨ρ', H', G', h1, h2, h4, h5⟩ := he
  rcases hK _ _ _ h4 h5 with ⟨k, i, j, t, cs, t', sz, n, xs, a1, a2, a3, a4⟩ | h6
  ·exact ⟨ρ', H', _, h1.recut a1 a2 a3, h2, h4, a4⟩
  ·exact ⟨ρ', H', G', h1, h2, h4, h6⟩
 | outgrown => exact he
theorem CallO.of_clone {f : FuncId} {H : Hp} {d : TypeDesc} {n : Nat} {g : Value → Option Value}
  (h : ∀ (b : Nat) (es : Array MapEntry) (clock : Nat) (w : World), w.heap[b]? = some (.map es clock) → Calls P f #[.map (some b)] w fun e w' => e = .returned (.map (some w.heap.size)) ∧ w' = w.alloc (.map es clock)) :
  CallO P f [.si (.ce (.self 0))] H [.map d n g] fun e H' G' => e = .ret (.si (.ce (.self 1))) ∧ H' = H ∧ G' = [.map d n g, .map d n g] := by
 intro w0 M hgd H0 ρ w vs hs hv
 obtain ⟨v0, rfl, hv0⟩ : ∃ v0, vs = [v0] ∧ ρ[0]? = some v0 := by
  cases hv with | cons h1 h2 => cases h2; exact ⟨_, rfl, h1⟩
 obtain ⟨b, es, clock, rfl, hb, hm⟩ := hs.ok 0 _ _ rfl hv0
 refine (h b es clock w hb).mono fun e w' he => ?_
 obtain ⟨rfl, rfl⟩ := he
 have hρl : ρ.length = 1 := hs.len
 have hg : w.grownBy (w.alloc (.map es clock)) none := grown_of_below ((Below.refl _ w).alloc (Nat.le_refl _) _)
 have hs1 := hs.grew hg (fun g e => by cases e)
 have hs2 := hs1.adopt (s := .map d n g) (r := .map (some w.heap.size)) ⟨w.heap.size, es, clock, rfl, (MapKept.heap_alloc w _).1, hm⟩
  (fun g hg2 => by
   have e : g = w.heap.size := by simp [SB.blk] at hg2; exact hg2.symm
   subst e
   exact ⟨.inl hs.size, hs.fresh, fun k hk => absurd (hs.lt hk) (Nat.lt_irrefl _)⟩)
 refine ⟨_, ρ ++ [_], H, _, hs2, Pre.append _ _, ?_, .refl _, rfl, rfl, rfl⟩
 show (ρ ++ [_])[1]? = some _
 rw [List.getElem?_append_right (by omega), hρl]
 rfl
end
end Go.Kx
namespace Go.Kx
open Go.RowKit
structure SlAt (H : Hp) (A : Option Addr) (n cap : Nat) (bs : List UInt8) : Prop where
 len : n = bs.length
 room : n ≤ cap
 rd : (n = 0 ∧ A = none) ∨ ∃ b o, A = some ⟨b, o, none⟩ ∧ RdN H (some ⟨b, o, none⟩) 0 (bCells bs)
theorem SlAt.mono {H H' : Hp} {A : Option Addr} {n cap : Nat} {bs : List UInt8} (h : SlAt H A n cap bs) (hle : H.Le H') : SlAt H' A n cap bs :=
 ⟨h.len, h.room, h.rd.imp id fun ⟨b, o, h1, h2⟩ => ⟨b, o, h1, h2.mono hle⟩⟩
theorem rd_nil {H : Hp} {b o : Nat} : RdN H (some ⟨b, o, none⟩) 0 [] := ⟨b, o, rfl, fun j x hx => by simp at hx⟩
theorem SlAt.nul {H : Hp} {cap : Nat} : SlAt H none 0 cap [] := ⟨rfl, Nat.zero_le _, .inl ⟨rfl, rfl⟩⟩
theorem SlAt.nil {H : Hp} {b o cap : Nat} : SlAt H (some ⟨b, o, .none⟩) 0 cap [] := ⟨rfl, Nat.zero_le _, .inr ⟨b, o, rfl, rd_nil⟩⟩
theorem SlAt.of_frozen {H : Hp} {x : Value} {n : Nat} {bs : List UInt8} (hn : n = bs.length) (h : Frozen H x n (bCells bs)) : ∃ A cap, x = .slice A n cap ∧ SlAt H A n cap bs := by
 rcases h with ⟨rfl, h1, h2⟩ | ⟨g, o, cap, rfl, h1, h2⟩
 ·exact ⟨.none, 0, by rw [h1], hn, by omega, .inl ⟨h1, rfl⟩⟩
 ·exact ⟨_, cap, rfl, hn, h1, .inr ⟨g, o, rfl, h2⟩⟩
theorem SlAt.z {H : Hp} {A : Option Addr} {n cap : Nat} {bs : List UInt8} (h : SlAt H A n cap bs) : BytesZ H A n bs := by
 refine ⟨h.len, fun e => ?_, fun a e => ?_⟩
 ·rcases h.rd with ⟨h1, _⟩ | ⟨b, o, h1, _⟩
  ·exact List.eq_nil_of_length_eq_zero (by rw [← h.len]; exact h1)
  ·rw [e] at h1; cases h1
 ·rcases h.rd with ⟨h1, _⟩ | ⟨b, o, h1, h2⟩
  ·exact .inl h1
  ·rw [e] at h1; injection h1 with h1; subst h1; exact .inr h2
theorem SlAt.at_ {H : Hp} {A : Option Addr} {n cap : Nat} {bs : List UInt8} (h : SlAt H A n cap bs) (h0 : 0 < n) : ∃ b o, A = some ⟨b, o, .none⟩ ∧ RdN H (some ⟨b, o, .none⟩) 0 (bCells bs) := by
 rcases h.rd with h1 | h1
 ·omega
 ·exact h1
theorem SlAt.addr {H : Hp} {A : Option Addr} {n cap : Nat} {bs : List UInt8} (h : SlAt H A n cap bs) (h0 : 0 < n) : ∃ b o, A = some ⟨b, o, .none⟩ := let ⟨b, o, h1, _⟩ := h.at_ h0; ⟨b, o, h1⟩
theorem SlAt.get {H : Hp} {A : Option Addr} {n cap i off : Nat} {bs : List UInt8} (h : SlAt H A n cap bs) (hi : i < n) (ho : off = i) : RdC H A off (.int .u8 (byteN bs i)) := by
 subst ho
 obtain ⟨b, o, rfl, b', o', e, h2⟩ := h.at_ (by omega)
 injection e with e; injection e with e1 e2; subst e1 e2
 refine ⟨b, o, rfl, ?_⟩
 have := h2 off _ (bCells_get (by rw [← h.len]; exact hi))
 rwa [Nat.add_zero] at this
theorem SlAt.piece {H : Hp} {A : Option Addr} {n cap : Nat} {bs : List UInt8} (h : SlAt H A n cap bs) {l u : Nat} (h1 : l ≤ u) (h2 : u ≤ n) : SlAt H (subA A cap l 1) (u - l) (cap - l) ((bs.drop l).take (u - l)) := by
 have hl := h.len
 have hroom := h.room
 refine ⟨by simp; omega, by omega, ?_⟩
 rcases h.rd with ⟨h0, rfl⟩ | ⟨b, o, rfl, hr⟩
 ·left
  refine ⟨by omega, ?_⟩
  unfold subA
  split <;> rfl
 ·right
  by_cases hc : cap = l
  ·have e0 : u - l = 0 := by omega
   refine ⟨b, o, ?_, ?_⟩
   ·unfold subA; rw [if_pos hc]
   ·rw [e0, List.take_zero]; exact rd_nil
  refine ⟨b, o + l * 1, ?_, b, _, rfl, fun j x hx => ?_⟩
  ·unfold subA
   rw [if_neg hc, Option.map_some, Addr.add_lit]
  obtain ⟨b', o', e, h3⟩ := hr
  injection e with e; injection e with e1 e2; subst e1 e2
  have := h3 (l + j) x (by
   unfold bCells at hx ⊢
   rw [List.getElem?_map] at hx ⊢
   rw [List.getElem?_take] at hx
   split at hx
   ·rw [List.getElem?_drop] at hx; exact hx
   ·cases hx)
  rw [← this]
  congr 1
  omega
theorem SlAt.drop {H : Hp} {A : Option Addr} {n cap : Nat} {bs : List UInt8} (h : SlAt H A n cap bs) {l : Nat} (h1 : l ≤ n) : SlAt H (subA A cap l 1) (n - l) (cap - l) (bs.drop l) := by
 have := h.piece h1 (Nat.le_refl n)
 rwa [List.take_of_length_le (by rw [List.length_drop, ← h.len]; exact Nat.le_refl _)] at this
theorem SlAt.take {H : Hp} {A : Option Addr} {n cap : Nat} {bs : List UInt8} (h : SlAt H A n cap bs) {u : Nat} (h2 : u ≤ n) : SlAt H (subA A cap 0 1) (u - 0) (cap - 0) (bs.take u) := by
 have := h.piece (Nat.zero_le u) h2
 rwa [List.drop_zero] at this
theorem SlAt.src {H : Hp} {A : Option Addr} {n cap : Nat} {bs : List UInt8} (h : SlAt H A n cap bs) {K : Nat → List Value → Prop} (hK : K n (bCells bs)) :
  match A with
  | some a => ∃ ys : List Value, ys.length = n * 1 ∧ RdN H (some a) 0 ys ∧ (∀ u ∈ ys, u.oneCell' = true) ∧ K n ys
  | none => match n with
   | 0 => K 0 []
   | _ + 1 => False := by
 rcases h.rd with ⟨h0, rfl⟩ | ⟨b, o, rfl, hr⟩
 ·subst h0
  have : bs = [] := List.eq_nil_of_length_eq_zero h.len.symm
  subst this
  exact hK
 ·exact ⟨bCells bs, by rw [bCells_length, ← h.len, Nat.mul_one], hr, bCells_one bs, hK⟩
def RetS (bs : List UInt8) (e : SE) (H' : Hp) : Prop := ∃ A n cap, e = .ret (pv (.slice A n cap)) ∧ SlAt H' A n cap bs
theorem RetS.z {bs : List UInt8} {e : SE} {H' : Hp} (h : RetS bs e H') : ∃ A n cap, e = .ret (pv (.slice A n cap)) ∧ BytesZ H' A n bs := let ⟨A, n, cap, h1, h2⟩ := h; ⟨A, n, cap, h1, h2.z⟩
theorem SlAt.str {H : Hp} {A : Option Addr} {n cap : Nat} {bs : List UInt8} (h : SlAt H A n cap bs) : (A = none → bs = []) ∧ ∀ a, A = some a → (strOf bs).size = n ∧ (n = 0 ∨ RdN H (some a) 0 (byteCells (strOf bs))) := by
 refine ⟨h.z.2.1, fun a e => ⟨h.len.symm, ?_⟩⟩
 rw [← cells_str]
 exact h.z.2.2 a e
section
variable {P : Program}
theorem CallO.slice {f : FuncId} {svs : List SV} {H : Hp} {t : TypeId} {n : Nat} {bs : List UInt8} (hn : n = bs.length) (h : CallO P f svs H [] fun e _ G' => e = .ret (.si (.ce (.self 0))) ∧ G' = [.row t 1 n (bCells bs)]) :
  CallO P f svs H [] fun e H' G' => RetS bs e H' ∧ G' = [] := by
 refine CallO.sub (CallO.frz (K := fun e H' G' => RetS bs e H' ∧ G' = [.dead]) h ?_) ?_
 ·rintro e H' G' hle ⟨rfl, rfl⟩
  refine ⟨0, t, 1, n, bCells bs, rfl, fun h0 => ?_, fun x H2 hle2 hfr => ?_⟩
  ·have : bs = [] := List.eq_nil_of_length_eq_zero (by omega)
   rw [this]; rfl
  ·obtain ⟨A, cap, rfl, hb⟩ := SlAt.of_frozen hn hfr
   exact ⟨⟨A, n, cap, rfl, hb⟩, rfl⟩
 ·rintro e H' G' hle ⟨⟨A, n, cap, rfl, hb⟩, rfl⟩
  exact ⟨_, [], [], rfl, trivial, rfl, ⟨A, n, cap, rfl, hb⟩, rfl⟩
end
theorem splice_ow {D b : List UInt8} {a : Nat} : splice (bCells D) (a * 1) (bCells b) = bCells (D.take a ++ b ++ D.drop (a + b.length)) := by
 unfold splice bCells
 simp [List.map_take, List.map_drop]
end Go.Kx
namespace Go.Kx
open Go.RowKit
section
variable {P : Program} {n e : Nat} {D : Pin}
abbrev BOp := Nat × List Nat × (SV → Hp → Prop)
def phiOf : List BOp → Nat → SV → Hp → Prop
  | [], _, _, _ => False
  | b :: r, j, sv, H => match Nat.beq b.1 j with
    | true => b.2.2 sv H
    | false => phiOf r j sv H
def preX (P : Program) (T : Tab) (n : Nat) (ps : List Nat) (ops : List Oper) (Hm : Hp) (Gm : List SB) (K : Fr → Prop) (pre : List Nat) (F : Fr) : Prop :=
  @List.rec Nat (fun _ => Fr → Prop) (fun F => K F)
    (fun i _ ih F => nthX ops i fun o => wantX ops F o.guard fun b => match b with
      | true => quietX P T o F Hm Gm fun sv => partBool (guards ops i) sv fun sv => putX n ps o.dst F sv fun F' => ih F'
      | false => putX n ps o.dst F (pv undef) fun F' => ih F') pre F
def depX (ops : List Oper) (B : List BOp) (H : Hp) (K : Fr → Prop) (deps : List Nat) (F : Fr) : Prop :=
  @List.rec Nat (fun _ => Fr → Prop) (fun F => K F)
    (fun j _ ih F => ∀ sv, phiOf B j sv H → nthX ops j fun o => match o.dst with
      | some d => ih ((d, sv) :: F)
      | none => True) deps F
def obX (P : Program) (T : Tab) (ops : List Oper) (F : Fr) (H : Hp) (G : List SB) (B0 : List BOp) : List BOp → Prop
  | [] => True
  | b :: r => (∀ H', H.Le H' → nthX ops b.1 fun o => depX ops B0 H' (fun F' => wantX ops F' o.guard fun g => match g with
      | true => opX P T o F' H' G (fun sv H'' G'' => G''.take G.length = G ∧ sv.wf G.length = true ∧ b.2.2 sv H'') (fun _ _ _ => False)
      | false => False) b.2.1 F) ∧ obX P T ops F H G B0 r
def moX : List BOp → Prop
  | [] => True
  | b :: r => (∀ sv H H', Hp.Le H H' → b.2.2 sv H → b.2.2 sv H') ∧ moX r
def finX (ops : List Oper) (H : Hp) (K : Fr → Prop) : List BOp → Fr → Prop
  | [], F => K F
  | b :: r, F => ∀ sv, b.2.2 sv H → nthX ops b.1 fun o => match o.dst with
    | some d => finX ops H K r ((d, sv) :: F)
    | none => True
def dstOf (ops : Array Oper) (i : Nat) : Option Tmp := (ops[i]?).bind (·.dst)
def bDst (ops : Array Oper) (B : List BOp) : List Nat := B.filterMap fun b => dstOf ops b.1
def dropF (ds : List Nat) (F : Fr) : Fr := F.filter fun p => !(ds.any (Nat.beq p.1))
def lst (l : Array Bool) : List Nat → Array Bool
  | [] => l
  | i :: r => lst (l.setIfInBounds i true) r
def preOk (ops : Array Oper) : List Nat → Array Bool → Bool
  | [], _ => true
  | i :: r, l => Region.free .any ops l i && (Region.ready .any ops l).contains i && preOk ops r (l.setIfInBounds i true)
def ancs (ops : Array Oper) : Nat → Nat → List Nat
  | 0, _ => []
  | f + 1, k => match ops[k]? with
    | none => []
    | some o => (o.after.toList.filter (Region.binds .any)).flatMap fun e => e.on :: ancs ops f e.on
def opOk (ops : Array Oper) (n : Nat) (ps : List Nat) (l : Array Bool) (S : List Nat) (b : Nat × List Nat) : Bool :=
  match ops[b.1]? with
  | none => false
  | some o => (match o.dst with | some d => Nat.blt d n && !ps.any (Nat.beq d) | none => false) && !l.getD b.1 true &&
    b.2.all (fun j => S.contains j && o.after.any fun e => Region.binds .any e && Nat.beq e.on j) &&
    o.after.all (fun e => !Region.binds .any e || (Nat.blt e.on b.1 && (l.getD e.on false || S.contains e.on)))
def nodB : List Nat → Bool
  | [] => true
  | a :: r => !r.any (Nat.beq a) && nodB r
theorem nodB_ok : ∀ {l : List Nat}, nodB l = true → l.Nodup
  | [], _ => List.nodup_nil
  | a :: r, h => by
    simp only [nodB, Bool.and_eq_true, Bool.not_eq_true', List.any_eq_false] at h
    exact List.nodup_cons.2 ⟨fun hm => h.1 a hm (Nat.beq_refl a), nodB_ok h.2⟩
def bunOk (ops : Array Oper) (n : Nat) (ps : List Nat) (pre : List Nat) (B : List (Nat × List Nat)) (d : DP) (f1 : Nat) : Bool :=
  Region.noSelect ops && preOk ops pre (Array.replicate ops.size false) && Nat.beq ops.size (pre.length + (B.length + f1)) &&
  nodB (B.map (·.1)) && nodB (B.filterMap fun b => dstOf ops b.1) &&
  B.all (opOk ops n ps (lst (Array.replicate ops.size false) pre) (B.map (·.1))) &&
  (List.range ops.size).all (fun k => (lst (Array.replicate ops.size false) pre).getD k true || (B.map (·.1)).contains k || (B.map (·.1)).all fun i => (ancs ops 12 k).contains i) &&
  okD ops false d f1 (lst (lst (Array.replicate ops.size false) pre) (B.map (·.1)))
theorem lst_size : ∀ (l : Array Bool) (is : List Nat), (lst l is).size = l.size
  | l, [] => rfl
  | l, i :: r => by rw [lst, lst_size]; simp
theorem lst_getD (d : Bool) : ∀ (is : List Nat) (l : Array Bool) (k : Nat), k ∉ is → (lst l is).getD k d = l.getD k d
  | [], l, k, _ => rfl
  | i :: r, l, k, h => by
    simp only [List.mem_cons, not_or] at h
    rw [lst, lst_getD d r _ k h.2, getD_set_ne d (Ne.symm h.1)]
theorem lst_true (d : Bool) : ∀ (is : List Nat) (l : Array Bool) (k : Nat), k < l.size → k ∈ is ∨ l.getD k d = true → (lst l is).getD k d = true
  | [], l, k, _, h => by
    rcases h with h | h
    · simp at h
    · exact h
  | i :: r, l, k, hk, h => by
    rw [lst]
    by_cases hik : i = k
    · subst hik
      exact lst_true d r _ i (by simpa using hk) (.inr (by simp [hk]))
    · refine lst_true d r _ k (by simpa using hk) ?_
      rcases h with h | h
      · rcases List.mem_cons.1 h with h | h
        · exact absurd h.symm hik
        · exact .inl h
      · exact .inr (by rw [getD_set_ne d hik]; exact h)
def Closed (ops : Array Oper) (l : Array Bool) : Prop := ∀ k o, ops[k]? = some o → l.getD k false = true → ∀ e ∈ o.after, Region.binds .any e = true → l.getD e.on false = true
theorem Closed.set {ops : Array Oper} {l : Array Bool} (h : Closed ops l) {i : Nat} (hi : i ∈ Region.ready .any ops l) : Closed ops (l.setIfInBounds i true) := by
  intro k o hk hl e he hb
  refine getD_set_true ?_
  by_cases hik : i = k
  · subst hik
    obtain ⟨_, o2, ho2, hall⟩ := mem_ready.1 hi
    rw [hk] at ho2
    injection ho2 with ho2
    subst ho2
    exact hall e he hb
  · rw [getD_set_ne false hik] at hl
    exact h k o hk hl e he hb
theorem Closed.ancs {ops : Array Oper} {l : Array Bool} (h : Closed ops l) : ∀ (f k : Nat), (∀ o, ops[k]? = some o → ∀ e ∈ o.after, Region.binds .any e = true → l.getD e.on false = true) → ∀ j ∈ ancs ops f k, l.getD j false = true
  | 0, k, _, j, hj => by simp [Kx.ancs] at hj
  | f + 1, k, hk, j, hj => by
    unfold Kx.ancs at hj
    split at hj
    · simp at hj
    · rename_i o ho
      simp only [List.mem_flatMap, List.mem_filter, Array.mem_toList_iff, List.mem_cons] at hj
      obtain ⟨e, ⟨he, hb⟩, hj⟩ := hj
      have h1 := hk o ho e he hb
      rcases hj with rfl | hj
      · exact h1
      · exact h.ancs f e.on (fun o2 ho2 e2 he2 hb2 => h e.on o2 ho2 h1 e2 he2 hb2) j hj
theorem Closed.begin (ops : Array Oper) (m : Nat) : Closed ops (Array.replicate m false) := by
  intro k o hk hl e he hb
  exfalso
  rw [Array.getD_eq_getD_getElem?, Array.getElem?_replicate] at hl
  split at hl <;> simp at hl
theorem phiOf_mem {B : List BOp} {j : Nat} {sv : SV} {H : Hp} {deps : List Nat} {Φ : SV → Hp → Prop} (hn : (B.map (·.1)).Nodup) (hm : (j, deps, Φ) ∈ B) (h : Φ sv H) : phiOf B j sv H := by
  induction B with
  | nil => simp at hm
  | cons b r ih =>
    simp only [List.map_cons, List.nodup_cons] at hn
    unfold phiOf
    rcases List.mem_cons.1 hm with rfl | hm
    · simp only [Nat.beq_refl]; exact h
    · have : Nat.beq b.1 j = false := by
        cases hb : Nat.beq b.1 j with
        | false => rfl
        | true =>
          have := Nat.eq_of_beq_eq_true hb
          exact absurd (List.mem_map.2 ⟨_, hm, this.symm⟩) hn.1
      simp only [this]
      exact ih hn.2 hm
theorem depX_ok {ops : Array Oper} {B : List BOp} {H : Hp} {K : Fr → Prop} : ∀ {deps : List Nat} {F : Fr}, depX ops.toList B H K deps F →
    ∀ (V : Nat → SV), (∀ j ∈ deps, phiOf B j (V j) H ∧ (dstOf ops j).isSome = true) → K ((deps.filterMap fun j => (dstOf ops j).map fun d => (d, V j)).reverse ++ F)
  | [], F, h, V, _ => h
  | j :: r, F, h, V, hV => by
    have h1 : ∀ sv, phiOf B j sv H → nthX ops.toList j fun o => match o.dst with
      | some d => depX ops.toList B H K r ((d, sv) :: F)
      | none => True := h
    obtain ⟨h2, h3⟩ := hV j (by simp)
    obtain ⟨o, ho, h4⟩ := nthX_ok (h1 (V j) h2)
    have ho' : ops[j]? = some o := by simpa using ho
    cases hd : o.dst with
    | none => rw [dstOf, ho'] at h3; simp [hd] at h3
    | some d =>
      rw [hd] at h4
      have := depX_ok (F := (d, V j) :: F) h4 V (fun k hk => hV k (by simp [hk]))
      have e : dstOf ops j = some d := by rw [dstOf, ho']; exact hd
      rw [List.filterMap_cons, e]
      simpa using this
theorem finX_ok {ops : Array Oper} {H : Hp} {K : Fr → Prop} : ∀ {B : List BOp} {F : Fr}, finX ops.toList H K B F →
    ∀ (V : Nat → SV), (∀ b ∈ B, b.2.2 (V b.1) H ∧ (dstOf ops b.1).isSome = true) → K ((B.filterMap fun b => (dstOf ops b.1).map fun d => (d, V b.1)).reverse ++ F)
  | [], F, h, V, _ => h
  | b :: r, F, h, V, hV => by
    obtain ⟨h2, h3⟩ := hV b (by simp)
    obtain ⟨o, ho, h4⟩ := nthX_ok (h (V b.1) h2)
    have ho' : ops[b.1]? = some o := by simpa using ho
    cases hd : o.dst with
    | none => rw [dstOf, ho'] at h3; simp [hd] at h3
    | some d =>
      rw [hd] at h4
      have := finX_ok (F := (d, V b.1) :: F) h4 V (fun k hk => hV k (by simp [hk]))
      have e : dstOf ops b.1 = some d := by rw [dstOf, ho']; exact hd
      rw [List.filterMap_cons, e]
      simpa using this
theorem obX_mem {T : Tab} {ops : List Oper} {F : Fr} {H : Hp} {G : List SB} {B0 : List BOp} : ∀ {B : List BOp}, obX P T ops F H G B0 B → ∀ b ∈ B, ∀ H', H.Le H' → nthX ops b.1 fun o => depX ops B0 H' (fun F' => wantX ops F' o.guard fun g => match g with
      | true => opX P T o F' H' G (fun sv H'' G'' => G''.take G.length = G ∧ sv.wf G.length = true ∧ b.2.2 sv H'') (fun _ _ _ => False)
      | false => False) b.2.1 F
  | [], _, b, hb => by simp at hb
  | c :: r, h, b, hb => by
    rcases List.mem_cons.1 hb with rfl | hb
    · exact h.1
    · exact obX_mem h.2 b hb
theorem moX_mem : ∀ {B : List BOp}, moX B → ∀ b ∈ B, ∀ sv H H', Hp.Le H H' → b.2.2 sv H → b.2.2 sv H'
  | [], _, b, hb => by simp at hb
  | c :: r, h, b, hb => by
    rcases List.mem_cons.1 hb with rfl | hb
    · exact h.1
    · exact moX_mem h.2 b hb
theorem dropF_mem {ds : List Nat} {F : Fr} {p : Nat × SV} : p ∈ dropF ds F ↔ p ∈ F ∧ p.1 ∉ ds := by
  unfold dropF
  rw [List.mem_filter]
  simp only [Bool.not_eq_true', List.any_eq_false]
  constructor
  · rintro ⟨h1, h2⟩; exact ⟨h1, fun h => h2 _ h (Nat.beq_refl _)⟩
  · rintro ⟨h1, h2⟩; exact ⟨h1, fun x hx e => h2 (by rw [Nat.eq_of_beq_eq_true e]; exact hx)⟩
theorem getD_any {l : Array Bool} {k : Nat} (h : k < l.size) (d d' : Bool) : l.getD k d = l.getD k d' := by simp [h]
theorem arr_ext {a b : Array Bool} (hs : a.size = b.size) (h : ∀ k, k < a.size → a.getD k true = b.getD k true) : a = b := by
  refine Array.ext hs fun k h1 h2 => ?_
  have := h k h1
  simpa [h1, h2] using this
theorem put_get {a : Act} {d k : Nat} {v : Value} (h : k ≠ d) : (a.put (some d) v).tmps[k]? = a.tmps[k]? := by
  show (a.tmps.setIfInBounds d v)[k]? = _
  rw [Array.getElem?_setIfInBounds_ne (Ne.symm h)]
theorem put_at {a : Act} {d : Nat} {v : Value} (h : d < a.tmps.size) : (a.put (some d) v).tmps[d]? = some v := by
  show (a.tmps.setIfInBounds d v)[d]? = _
  simp [h]
structure OpOk (ops : Array Oper) (n : Nat) (ps : List Nat) (l : Array Bool) (S : List Nat) (i : Nat) (deps : List Nat) (o : Oper) (d : Nat) : Prop where
  op : ops[i]? = some o
  dst : o.dst = some d
  lt : d < n
  ps : d ∉ ps
  un : l.getD i true = false
  deps : ∀ j ∈ deps, j ∈ S ∧ ∃ e ∈ o.after, Region.binds .any e = true ∧ e.on = j
  after : ∀ e ∈ o.after, Region.binds .any e = true → e.on < i ∧ (l.getD e.on false = true ∨ e.on ∈ S)
theorem opOk_ok {ops : Array Oper} {n : Nat} {ps : List Nat} {l : Array Bool} {S : List Nat} {b : Nat × List Nat} (h : opOk ops n ps l S b = true) : ∃ o d, OpOk ops n ps l S b.1 b.2 o d := by
  unfold opOk at h
  split at h
  · cases h
  · rename_i o ho
    simp only [Bool.and_eq_true, Bool.not_eq_true'] at h
    obtain ⟨⟨⟨h1, h2⟩, h3⟩, h4⟩ := h
    split at h1
    · rename_i d hd
      simp only [Bool.and_eq_true, Bool.not_eq_true', List.any_eq_false] at h1
      refine ⟨o, d, ho, hd, Nat.le_of_ble_eq_true h1.1, fun hm => h1.2 d hm (Nat.beq_refl d), h2, fun j hj => ?_, fun e he hb => ?_⟩
      · have := List.all_eq_true.1 h3 j hj
        simp only [Bool.and_eq_true, List.contains_iff_mem, Array.any_eq_true'] at this
        obtain ⟨h5, e, he, h6⟩ := this
        exact ⟨h5, e, he, h6.1, Nat.eq_of_beq_eq_true h6.2⟩
      · have := (Array.all_eq_true_iff_forall_mem.1 h4) e he
        rw [hb] at this
        simp only [Bool.not_true, Bool.false_or, Bool.and_eq_true, Bool.or_eq_true, List.contains_iff_mem] at this
        exact ⟨Nat.le_of_ble_eq_true this.1, this.2⟩
    · cases h1
theorem leastN {p : Nat → Prop} : ∀ (i : Nat), p i → ∃ k, p k ∧ ∀ j, j < k → ¬ p j := by
  intro i
  induction i using Nat.strongRecOn with
  | _ i ih =>
    intro h
    by_cases hx : ∃ j, j < i ∧ p j
    · obtain ⟨j, h1, h2⟩ := hx
      exact ih j h1 h2
    · exact ⟨i, h, fun j hj hp => hx ⟨j, hj, hp⟩⟩
theorem eq_of_key : ∀ {B : List BOp}, (B.map (·.1)).Nodup → ∀ {b c : BOp}, b ∈ B → c ∈ B → c.1 = b.1 → c = b
  | [], _, b, c, hb, _, _ => by simp at hb
  | x :: r, hn, b, c, hb, hc, h => by
    simp only [List.map_cons, List.nodup_cons] at hn
    rcases List.mem_cons.1 hb with hb | hb
    · rcases List.mem_cons.1 hc with hc | hc
      · rw [hb, hc]
      · exact absurd (List.mem_map.2 ⟨c, hc, by rw [h, hb]⟩) hn.1
    · rcases List.mem_cons.1 hc with hc | hc
      · exact absurd (List.mem_map.2 ⟨b, hb, by rw [← h, hc]⟩) hn.1
      · exact eq_of_key hn.2 hb hc h
theorem dst_key {ops : Array Oper} : ∀ {B : List BOp}, (B.filterMap fun b => dstOf ops b.1).Nodup → ∀ b ∈ B, ∀ c ∈ B, ∀ d, dstOf ops b.1 = some d → dstOf ops c.1 = some d → b.1 = c.1
  | [], _, b, hb, _, _, _, _, _ => by simp at hb
  | x :: r, h1, b, hb, c, hc, d, hbd, hcd => by
    cases hx : dstOf ops x.1 with
    | none =>
      rw [List.filterMap_cons_none (f := fun b : BOp => dstOf ops b.1) hx] at h1
      rcases List.mem_cons.1 hb with hb | hb
      · rw [hb, hx] at hbd; cases hbd
      rcases List.mem_cons.1 hc with hc | hc
      · rw [hc, hx] at hcd; cases hcd
      exact dst_key h1 b hb c hc d hbd hcd
    | some dx =>
      rw [List.filterMap_cons_some (f := fun b : BOp => dstOf ops b.1) hx] at h1
      simp only [List.nodup_cons] at h1
      have hno : ∀ y ∈ r, dstOf ops y.1 ≠ some dx := fun y hy hyd => h1.1 (List.mem_filterMap.2 ⟨y, hy, hyd⟩)
      rcases List.mem_cons.1 hb with hb | hb
      · rcases List.mem_cons.1 hc with hc | hc
        · rw [hb, hc]
        · rw [hb, hx] at hbd
          exact absurd (by rw [hcd, hbd]) (hno c hc)
      · rcases List.mem_cons.1 hc with hc | hc
        · rw [hc, hx] at hcd
          exact absurd (by rw [hbd, hcd]) (hno b hb)
        · exact dst_key h1.2 b hb c hc d hbd hcd
theorem bun_ok {T : Tab} (hT : TabOk P T) {ops : Array Oper} {B : List BOp} {L0 : Array Bool} {f1 : Nat} {Q : Exit → Act → World → Prop} {Sh : World → Prop} {w0 : World} {M : Nat → Prop} (hgd : Gd w0 M) {H0 H : Hp} {ρ : List Value} {G : List SB} {F0 : Fr}
    (hsz0 : L0.size = ops.size) (hn : (B.map (·.1)).Nodup) (hnd : ∀ b ∈ B, ∀ c ∈ B, ∀ d, dstOf ops b.1 = some d → dstOf ops c.1 = some d → b.1 = c.1) (hop : ∀ b ∈ B, opOk ops n D.ps L0 (B.map (·.1)) (b.1, b.2.1) = true)
    (htail : ∀ k, k < ops.size → L0.getD k true = true ∨ k ∈ B.map (·.1) ∨ ∀ i ∈ B.map (·.1), i ∈ ancs ops 12 k) (hmo : moX B) (hwf : G.all (SB.wf G.length) = true) (hlen : ρ.length = G.length) (hob : obX P T ops.toList F0 H G B B)
    (hF0 : ∀ p ∈ F0, ∀ b ∈ B, dstOf ops b.1 ≠ some p.1)
    (hheld : ∀ H' w', H.Le H' → St w0 M H0 ρ H' G w' → Sh w')
    (hfin : ∀ H' a' w' (V : Nat → SV), H.Le H' → St w0 M H0 ρ H' G w' → D.On a' → a'.tmps.size = n → (∀ b ∈ B, b.2.2 (V b.1) H') → FOk ρ F0 a'.tmps → (∀ b ∈ B, ∀ d, dstOf ops b.1 = some d → ∃ v, a'.tmps[d]? = some v ∧ (V b.1).Is ρ v) → wpAnyH P .any ops Q Sh f1 (lst L0 (B.map (·.1))) a' w') :
    ∀ (m : Nat) (U : List Nat) (listed : Array Bool) (a : Act) (w : World) (H' : Hp) (V : Nat → SV), U.Nodup → (∀ j, j ∈ U ↔ j ∈ B.map (·.1) ∧ listed.getD j true = false) → U.length = m → listed.size = ops.size → (∀ k, k ∉ B.map (·.1) → ∀ d, listed.getD k d = L0.getD k d) → Closed ops listed →
      H.Le H' → St w0 M H0 ρ H' G w → D.On a → a.tmps.size = n → FOk ρ F0 a.tmps → (∀ b ∈ B, listed.getD b.1 false = true → b.2.2 (V b.1) H' ∧ ∀ d, dstOf ops b.1 = some d → ∃ v, a.tmps[d]? = some v ∧ (V b.1).Is ρ v) →
      wpAnyH P .any ops Q Sh (m + f1) listed a w := by
  have hB : ∀ i, i ∈ B.map (·.1) → ∃ b ∈ B, b.1 = i := fun i hi => by
    obtain ⟨b, hb, rfl⟩ := List.mem_map.1 hi
    exact ⟨b, hb, rfl⟩
  have hlt : ∀ i, i ∈ B.map (·.1) → i < ops.size := fun i hi => by
    obtain ⟨b, hb, rfl⟩ := hB i hi
    obtain ⟨o, d, ho⟩ := opOk_ok (hop b hb)
    exact (Array.getElem?_eq_some_iff.1 ho.op).1
  intro m
  induction m with
  | zero =>
    intro U listed a w H' V hU hUm hUl hls hout hcl hle hs hde hsz hf hV
    have hU0 : U = [] := List.eq_nil_of_length_eq_zero hUl
    subst hU0
    have hall : ∀ j, j ∈ B.map (·.1) → listed.getD j true = true := fun j hj => by
      cases hb : listed.getD j true with
      | true => rfl
      | false => exact absurd ((hUm j).2 ⟨hj, hb⟩) (by simp)
    have hall2 : ∀ j, j ∈ B.map (·.1) → listed.getD j false = true := fun j hj => by
      rw [getD_any (by rw [hls]; exact hlt j hj) false true]; exact hall j hj
    have heq : listed = lst L0 (B.map (·.1)) := by
      refine arr_ext (by rw [lst_size, hls, hsz0]) fun k hk => ?_
      by_cases hkS : k ∈ B.map (·.1)
      · rw [hall k hkS, lst_true true _ _ k (by rw [hsz0, ← hls]; exact hk) (.inl hkS)]
      · rw [hout k hkS true, lst_getD true _ _ k hkS]
    rw [Nat.zero_add, heq]
    exact hfin H' a w V hle hs hde hsz (fun b hb => (hV b hb (hall2 _ (List.mem_map_of_mem hb))).1) hf (fun b hb => (hV b hb (hall2 _ (List.mem_map_of_mem hb))).2)
  | succ m ih =>
    intro U listed a w H' V hU hUm hUl hls hout hcl hle hs hde hsz hf hV
    obtain ⟨i0, hi0⟩ : ∃ i, i ∈ U := by
      cases U with
      | nil => simp at hUl
      | cons x r => exact ⟨x, by simp⟩
    obtain ⟨i1, hi1, hmin⟩ := leastN (p := fun i => i ∈ U) i0 hi0
    obtain ⟨hi1S, hi1u⟩ := (hUm i1).1 hi1
    have hr1 : i1 ∈ Region.ready .any ops listed := by
      obtain ⟨b, hb, rfl⟩ := hB i1 hi1S
      obtain ⟨o, d, ho⟩ := opOk_ok (hop b hb)
      refine mem_ready.2 ⟨hi1u, o, ho.op, fun e he hbd => ?_⟩
      obtain ⟨h1, h2⟩ := ho.after e he hbd
      have helt : e.on < listed.size := by rw [hls]; exact Nat.lt_trans h1 (hlt _ hi1S)
      by_cases heS : e.on ∈ B.map (·.1)
      · cases hg : listed.getD e.on true with
        | false => exact absurd ((hUm e.on).2 ⟨heS, hg⟩) (hmin _ h1)
        | true => rw [getD_any helt false true]; exact hg
      · rw [hout e.on heS false]
        exact h2.resolve_right heS
    have hstep : m + 1 + f1 = (m + f1) + 1 := by omega
    rw [hstep]
    refine ⟨fun h0 => (by rw [h0] at hr1; cases hr1), fun i hi => ?_⟩
    have hi' := mem_ready.1 hi
    obtain ⟨hiu, o, ho, hafter⟩ := hi'
    have hilt : i < ops.size := (Array.getElem?_eq_some_iff.1 ho).1
    have hiS : i ∈ B.map (·.1) := by
      rcases htail i hilt with h | h | h
      · by_cases hS : i ∈ B.map (·.1)
        · exact hS
        · rw [hout i hS true, h] at hiu; cases hiu
      · exact h
      · exfalso
        have h1 := hcl.ancs 12 i (fun o2 ho2 e he hbd => by
          rw [ho] at ho2; injection ho2 with ho2; subst ho2
          exact hafter e he hbd) i1 (h i1 hi1S)
        rw [getD_any (by rw [hls]; exact hlt _ hi1S) false true, hi1u] at h1
        cases h1
    obtain ⟨b, hb, rfl⟩ := hB i hiS
    obtain ⟨o2, d, hok⟩ := opOk_ok (hop b hb)
    have : o2 = o := by have := hok.op; simp only at this; rw [ho] at this; injection this with this; exact this.symm
    subst this
    have hdst : dstOf ops b.1 = some d := by unfold dstOf; rw [ho]; exact hok.dst
    have hdepsl : ∀ j ∈ b.2.1, j ∈ B.map (·.1) ∧ listed.getD j false = true := fun j hj => by
      obtain ⟨h1, e, he, h2, rfl⟩ := hok.deps j hj
      exact ⟨h1, hafter e he h2⟩
    have hdepV : ∀ j ∈ b.2.1, phiOf B j (V j) H' ∧ (dstOf ops j).isSome = true := fun j hj => by
      obtain ⟨h1, h2⟩ := hdepsl j hj
      obtain ⟨c, hc, rfl⟩ := hB j h1
      obtain ⟨o3, d3, hok3⟩ := opOk_ok (hop c hc)
      refine ⟨phiOf_mem hn hc (hV c hc h2).1, ?_⟩
      have e3 : ops[c.1]? = some o3 := hok3.op
      unfold dstOf; rw [e3]; simp [hok3.dst]
    obtain ⟨o3, ho3, h4⟩ := nthX_ok (obX_mem hob b hb H' hle)
    have : o3 = o2 := by have h5 : ops[b.1]? = some o3 := by simpa using ho3
                         rw [ho] at h5; injection h5 with h5; exact h5.symm
    subst this
    have h5 := depX_ok h4 V hdepV
    obtain ⟨g, h6, hw⟩ := wantX_ok (ops := ops) h5
    have hf' : FOk ρ ((b.2.1.filterMap fun j => (dstOf ops j).map fun d => (d, V j)).reverse ++ F0) a.tmps := by
      intro k sv hk
      rcases List.mem_append.1 hk with hk | hk
      · rw [List.mem_reverse, List.mem_filterMap] at hk
        obtain ⟨j, hj, hk⟩ := hk
        obtain ⟨h1, h2⟩ := hdepsl j hj
        obtain ⟨c, hc, rfl⟩ := hB j h1
        cases hdd : dstOf ops c.1 with
        | none => rw [hdd] at hk; cases hk
        | some dd =>
          rw [hdd] at hk
          simp only [Option.map_some, Option.some.injEq, Prod.mk.injEq] at hk
          obtain ⟨rfl, rfl⟩ := hk
          exact (hV c hc h2).2 _ hdd
      · exact hf k sv hk
    unfold wpOp
    simp only [ho, hw ρ a hf']
    cases g with
    | false => exact h6.elim
    | true =>
      simp only [if_true]
      left
      refine upon_of_out (opX_ok hT h6 w0 M hgd H0 ρ a w hs hf') ?_ ?_
      · rintro v w' ⟨sv, ρ', H2, G', h1, h2, h3, h4', hcut, hsv, hphi⟩
        have hρ : ρ'.take G.length = ρ := by
          rw [← hlen]
          refine List.ext_getElem? fun k => ?_
          rw [List.getElem?_take]
          split
          · rename_i hk
            have h8 : ρ[k]? = some ρ[k] := List.getElem?_eq_getElem hk
            rw [h8]; exact h2 k _ h8
          · rename_i hk
            rw [List.getElem?_eq_none (by omega)]
        have hs2 : St w0 M H0 ρ H2 G w' := by
          have := h1.cut G.length (by rw [hcut]; exact hwf)
          rwa [hρ, hcut] at this
        have hsv2 : sv.Is ρ v := by
          have := SV.Is.cut hsv h3
          rwa [hρ] at this
        have hle2 := hle.trans h4'
        rw [hok.dst]
        refine ⟨hheld H2 w' hle2 hs2, ?_⟩
        refine ih (U.erase b.1) _ _ w' H2 (fun j => if j = b.1 then sv else V j) (hU.erase _) ?_ ?_ (by simpa using hls) ?_ (hcl.set hi) hle2 hs2 (hde.put (fun d' hd' => by injection hd' with hd'; subst hd'; exact hok.ps) v) ?_ ?_ ?_
        · intro j
          rw [hU.mem_erase_iff, hUm]
          constructor
          · rintro ⟨h7, h8, h9⟩
            exact ⟨h8, by rw [getD_set_ne true (Ne.symm h7)]; exact h9⟩
          · rintro ⟨h8, h9⟩
            have h7 : j ≠ b.1 := fun h => by
              subst h
              have : (listed.setIfInBounds b.1 true).getD b.1 true = true := by simp [hls, hilt]
              rw [this] at h9; cases h9
            exact ⟨h7, h8, by rw [getD_set_ne true (Ne.symm h7)] at h9; exact h9⟩
        · rw [List.length_erase_of_mem ((hUm b.1).2 ⟨hiS, hiu⟩), hUl]; rfl
        · intro k hk dd
          rw [getD_set_ne dd (fun h => hk (by rw [← h]; exact hiS))]
          exact hout k hk dd
        · rw [put_size]; exact hsz
        · intro k s hk
          rw [put_get (fun h => hF0 _ hk b hb (by rw [hdst]; exact congrArg some h.symm))]
          exact hf k s hk
        · intro c hc hcl'
          by_cases hcb : c.1 = b.1
          · have : c = b := eq_of_key hn hb hc hcb
            subst this
            simp only [if_true]
            refine ⟨hphi, fun dd hdd => ?_⟩
            rw [hdst] at hdd
            injection hdd with hdd
            subst hdd
            exact ⟨v, put_at (by rw [hsz]; exact hok.lt), hsv2⟩
          · simp only [if_neg hcb]
            rw [getD_set_ne false (Ne.symm hcb)] at hcl'
            obtain ⟨h7, h8⟩ := hV c hc hcl'
            refine ⟨moX_mem hmo c hc _ _ _ h4' h7, fun dd hdd => ?_⟩
            rw [put_get (fun h => hcb (hnd c hc b hb dd hdd (by rw [hdst]; exact congrArg some h.symm)))]
            exact h8 dd hdd
      · rintro ch w' ⟨ρ', H2, G', h1, h2, h4', h5'⟩
        exact h5'.elim
theorem pre_ok {T : Tab} (hT : TabOk P T) {ops : Array Oper} (hsel : Region.noSelect ops = true) {Q : Exit → Act → World → Prop} {Hm : Hp} {ρ : List Value} {Gm : List SB} (hl0 : ρ.length = Gm.length)
    (hQ : ∀ (dst : Option Tmp) (_ : ∀ d, dst = some d → d ∉ D.ps) (v : Value) c a w, Q (.panic c) (a.put dst v) w → Q (.panic c) a w) {Kc : Fr → Prop} {fuel : Nat} :
    ∀ (pre : List Nat) (F : Fr) (listed : Array Bool), preOk ops pre listed = true → preX P T n D.ps ops.toList Hm Gm Kc pre F → Closed ops listed → ∀ (a : Act) (w : World), FOk ρ F a.tmps → D.On a → a.tmps.size = n → Held Hm ρ Gm w →
      (∀ F' a', Kc F' → FOk ρ F' a'.tmps → D.On a' → a'.tmps.size = n → Closed ops (lst listed pre) → wpAnyH P .any ops Q (Held Hm ρ Gm) fuel (lst listed pre) a' w) → wpAnyH P .any ops Q (Held Hm ρ Gm) (pre.length + fuel) listed a w
  | [], F, listed, _, h, hc, a, w, hf, hde, hsz, hS, hk => by rw [List.length_nil, Nat.zero_add]; exact hk F a h hf hde hsz hc
  | i :: r, F, listed, hp, h, hc, a, w, hf, hde, hsz, hS, hk => by
    simp only [preOk, Bool.and_eq_true] at hp
    obtain ⟨⟨hfree, hready⟩, hp⟩ := hp
    obtain ⟨o, ho, hd⟩ := nthX_ok (K := fun o => wantX ops.toList F o.guard fun b => match b with
      | true => quietX P T o F Hm Gm fun sv => partBool (guards ops.toList i) sv fun sv => putX n D.ps o.dst F sv fun F' => preX P T n D.ps ops.toList Hm Gm Kc r F'
      | false => putX n D.ps o.dst F (pv undef) fun F' => preX P T n D.ps ops.toList Hm Gm Kc r F') h
    obtain ⟨b, hd, hw⟩ := wantX_ok (ops := ops) hd
    have ho' : ops[i]? = some o := by simpa using ho
    have hsw : ∀ w, Held Hm ρ Gm w → Sw ρ Hm Gm w := fun w h => h.sw hl0 (.refl _) ⟨0, by simp⟩ hl0
    have hri : i ∈ Region.ready .any ops listed := by simpa using hready
    rw [List.length_cons, show r.length + 1 + fuel = (r.length + fuel) + 1 by omega]
    cases b with
    | true =>
      obtain ⟨sv, hd, hq⟩ := quietX_ok hT hd
      obtain ⟨sv', hd, h6⟩ := partBool_ok hd
      obtain ⟨F', hd, h70, h7⟩ := putX_ok hd
      obtain ⟨v, h8, h9⟩ := hq ρ a w hf (hsw w hS)
      refine wpAnyH_take (v := v) ho' hsel hfree hready (hQ _ h70 _) (.inl ⟨by rw [hw ρ a hf], fun w' h => h9 w' (hsw w' h)⟩) hS ?_
      exact pre_ok hT hsel hl0 hQ r F' _ hp hd (hc.set hri) _ w (h7 ρ a v hsz hf (h6 ρ v h8)) (hde.put h70 _) (by rw [put_size]; exact hsz) hS hk
    | false =>
      obtain ⟨F', hd, h70, h7⟩ := putX_ok hd
      refine wpAnyH_take (v := undef) ho' hsel hfree hready (hQ _ h70 _) (.inr ⟨by rw [hw ρ a hf], rfl⟩) hS ?_
      exact pre_ok hT hsel hl0 hQ r F' _ hp hd (hc.set hri) _ w (h7 ρ a undef hsz hf rfl) (hde.put h70 _) (by rw [put_size]; exact hsz) hS hk
theorem WS.bunch {T : Tab} (hT : TabOk P T) (hm : P.follows .mixedOrders = true) {id : Nat} {ops : Array Oper} {K : KT} {F : Fr} {H : Hp} {G : List SB} (pre : List Nat) (B : List BOp) (d : DP) (f1 : Nat) (hB : bunOk ops n D.ps pre (B.map fun b => (b.1, b.2.1)) d f1 = true) (mask : List Nat) (hmo : moX B) (hwf : G.all (SB.wf G.length) = true)
    (h : preX P T n D.ps ops.toList H (maskX mask G) (fun F' => obX P T ops.toList (dropF (bDst ops B) F') H G B B ∧ ∀ H', H.Le H' → finX ops.toList H' (fun F'' => drX P T n D.ps ops.toList H (fun ch H' G' => K (.panic ch) [] H' G') (fun F' H' G' => K .normal F' H' G') d F'' H' G (maskX mask G)) B (dropF (bDst ops B) F')) pre F) : WS P n e D (.region id ops true) K F H G := by
  refine ⟨?_⟩
  intro w0 M hgd H0 ρ a w hs hf hde hsz
  simp only [bunOk, Bool.and_eq_true, List.map_map, List.length_map] at hB
  obtain ⟨⟨⟨⟨⟨⟨⟨hsel, hpre⟩, hsize⟩, hn⟩, hnd⟩, hop⟩, htail⟩, hd⟩ := hB
  have hmap : (B.map fun b => (b.1, b.2.1)).map (fun b : Nat × List Nat => b.1) = B.map (·.1) := by rw [List.map_map]; rfl
  have hsize := Nat.eq_of_beq_eq_true hsize
  have hmk := maskX_ok (ks := mask) (G := G)
  generalize hGm : maskX mask G = Gm at *
  have hsd := hs.drew (w.drawn + 1)
  have hl0 : ρ.length = Gm.length := by rw [hmk.1]; exact hs.len
  have hheld : ∀ H' w', H.Le H' → St w0 M H0 ρ H' G w' → Held H ρ Gm w' := fun H' w' hle h => ⟨fun b o v hb => h.hin b o v (hle _ _ _ hb), fun k s r h1 h2 => by
    rcases hmk.2 k s h1 with rfl | h3
    · trivial
    · exact h.ok k s r h3 h2⟩
  have hQ : ∀ (dst : Option Tmp) (_ : ∀ d, dst = some d → d ∉ D.ps) (v : Value) c a w, PostX n e D w0 M H0 ρ H K (.panic c) (a.put dst v) w → PostX n e D w0 M H0 ρ H K (.panic c) a w := by
    intro dst hps v c a w h
    obtain ⟨h1, h2⟩ := h
    exact ⟨h1.unput hps, h2⟩
  refine wp_region_held (S := Held H ρ Gm) hm ?_
  rw [hsize]
  have hpre' := hpre
  rw [hsize] at hpre'
  have hLsz : (Array.replicate (pre.length + (B.length + f1)) false : Array Bool).size = ops.size := by simp [hsize]
  refine pre_ok hT hsel hl0 hQ (fuel := B.length + f1) pre F _ hpre' h (.begin ops _) a _ hf hde hsz (hheld H _ (.refl _) hsd) ?_
  intro F1 a1 ⟨hob, hfin⟩ hf1 hde1 hsz1 hcl1
  generalize hL0 : lst (Array.replicate (pre.length + (B.length + f1)) false) pre = L0 at *
  have hL0sz : L0.size = ops.size := by rw [← hL0, lst_size, hLsz]
  rw [hsize, hL0] at hop htail hd
  have hcomp : B.map ((fun x : Nat × List Nat => x.1) ∘ fun b : BOp => (b.1, b.2.1)) = B.map (·.1) := rfl
  rw [hcomp] at hop htail hd hn
  have hnodS : (B.map (·.1)).Nodup := by
    have := nodB_ok hn
    simpa using this
  have hop' : ∀ b ∈ B, opOk ops n D.ps L0 (B.map (·.1)) (b.1, b.2.1) = true := fun b hb => by
    have := List.all_eq_true.1 hop (b.1, b.2.1) (List.mem_map.2 ⟨b, hb, rfl⟩)
    exact this
  have hnd' : ∀ b ∈ B, ∀ c ∈ B, ∀ d, dstOf ops b.1 = some d → dstOf ops c.1 = some d → b.1 = c.1 := by
    have h1 := nodB_ok hnd
    have h2 : ((B.map fun b => (b.1, b.2.1)).filterMap fun b => dstOf ops b.1) = B.filterMap fun b => dstOf ops b.1 := by rw [List.filterMap_map]; rfl
    rw [h2] at h1
    exact dst_key h1
  have hF0 : ∀ p ∈ dropF (bDst ops B) F1, ∀ b ∈ B, dstOf ops b.1 ≠ some p.1 := fun p hp b hb he => by
    have := (dropF_mem.1 hp).2
    exact this (List.mem_filterMap.2 ⟨b, hb, he⟩)
  refine bun_ok hT hgd (L0 := L0) (f1 := f1) hL0sz hnodS hnd' hop' ?_ hmo hwf hs.len hob hF0 hheld ?_ B.length (B.map (·.1)) L0 a1 _ H (fun _ => pv undef) hnodS ?_ (by simp) hL0sz (fun _ _ _ => rfl) hcl1 (.refl _) hsd hde1 hsz1 (fun k s hk => hf1 k s (dropF_mem.1 hk).1) ?_
  · intro k hk
    have := List.all_eq_true.1 htail k (List.mem_range.2 (by rw [← hsize]; exact hk))
    simp only [Bool.or_eq_true, List.contains_iff_mem, List.all_eq_true] at this
    rcases this with (h1 | h1) | h1
    · exact .inl h1
    · exact .inr (.inl h1)
    · exact .inr (.inr h1)
  · intro H' a' w' V hle hs' hde' hsz' hV hf' hV2
    have hsome : ∀ b ∈ B, (dstOf ops b.1).isSome = true := fun b hb => by
      obtain ⟨o, dd, hok⟩ := opOk_ok (hop' b hb)
      have e1 : ops[b.1]? = some o := hok.op
      unfold dstOf; rw [e1]; simp [hok.dst]
    have h1 := finX_ok (hfin H' hle) V (fun b hb => ⟨hV b hb, hsome b hb⟩)
    have hff : FOk ρ ((B.filterMap fun b => (dstOf ops b.1).map fun d => (d, V b.1)).reverse ++ dropF (bDst ops B) F1) a'.tmps := by
      intro k sv hk
      rcases List.mem_append.1 hk with hk | hk
      · rw [List.mem_reverse, List.mem_filterMap] at hk
        obtain ⟨b, hb, hk⟩ := hk
        cases hdd : dstOf ops b.1 with
        | none => rw [hdd] at hk; cases hk
        | some dd =>
          rw [hdd] at hk
          simp only [Option.map_some, Option.some.injEq, Prod.mk.injEq] at hk
          obtain ⟨rfl, rfl⟩ := hk
          exact hV2 b hb _ hdd
      · exact hf' k sv hk
    have hmk3 : ∀ (k : Nat) (s : SB), Gm[k]? = some s → Tells s G[k]? := fun k s hk => (hmk.2 k s hk).imp (fun h => h) .inl
    exact drX_ok hT hsel hl0 hgd (Hp.Le.refl H) d false f1 _ hd _ H' G Gm h1 ρ a' w' hs' (.refl _) (.refl _ _) hle hff hde' hsz' (hheld H' w' hle hs') ⟨0, by simp⟩ hmk.1 hmk3
  · intro j
    constructor
    · intro hj
      obtain ⟨b, hb, rfl⟩ := List.mem_map.1 hj
      obtain ⟨o, dd, hok⟩ := opOk_ok (hop' b hb)
      exact ⟨hj, hok.un⟩
    · exact fun h => h.1
  · intro b hb hx
    obtain ⟨o, dd, hok⟩ := opOk_ok (hop' b hb)
    have hblt : b.1 < L0.size := by rw [hL0sz]; exact (Array.getElem?_eq_some_iff.1 hok.op).1
    rw [getD_any hblt false true] at hx
    have := hok.un
    simp only at this
    rw [this] at hx; cases hx
end
end Go.Kx
