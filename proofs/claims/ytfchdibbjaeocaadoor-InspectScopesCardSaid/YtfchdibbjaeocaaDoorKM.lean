/- Maps of one's own in a symbolic walk: made, read, written, an entry taken out. Generic in the program; no condition of its own. -/
import Derived.Test.YtfchdibbjaeocaaDoorK11
namespace Go.Kx
open Go.RowKit Go.MapKept

/-! ### What a map holds -/
open Classical in
noncomputable def updM (f : Value → Option Value) (k v : Value) : Value → Option Value := fun x => if x = k then some v else f x
open Classical in
noncomputable def delM (f : Value → Option Value) (k : Value) : Value → Option Value := fun x => if x = k then none else f x
theorem updM_self (f : Value → Option Value) (k v : Value) : updM f k v k = some v := by simp [updM]
theorem updM_ne (f : Value → Option Value) {k v x : Value} (h : x ≠ k) : updM f k v x = f x := by simp [updM, h]
theorem delM_self (f : Value → Option Value) (k : Value) : delM f k k = none := by simp [delM]
theorem delM_ne (f : Value → Option Value) {k x : Value} (h : x ≠ k) : delM f k x = f x := by simp [delM, h]
theorem MapIs.empty (d : TypeDesc) : MapIs d 0 (fun _ => none) #[] 0 := ⟨stamped_empty 0, by simp, rfl, by simp⟩
theorem MapIs.find {d : TypeDesc} {n : Nat} {f : Value → Option Value} {es : Array MapEntry} {clock : Nat} (h : MapIs d n f es clock) {k : Value} (hk : IsKey d k) :
    (Instr.findNow d k es.toList 0 = some none ∧ f k = none ∧ ∀ x ∈ es.toList, x.key ≠ k) ∨ ∃ j e, Instr.findNow d k es.toList 0 = some (some (j, e.val)) ∧ es[j]? = some e ∧ e.key = k ∧ f k = some e.val := by
  rcases findNow_spec hk es.toList 0 h.keys with ⟨h1, h2⟩ | ⟨j, e, h1, h2, h3⟩
  · refine .inl ⟨h1, ?_, h2⟩
    cases hf : f k with
    | none => rfl
    | some v =>
      obtain ⟨x, hx, hxk, _⟩ := (h.is k v).1 hf
      exact absurd hxk (h2 x hx)
  · refine .inr ⟨j, e, by simpa using h1, by simpa using h2, h3, (h.is k e.val).2 ⟨e, List.mem_of_getElem? h2, h3, rfl⟩⟩
theorem MapIs.push {d : TypeDesc} {n : Nat} {f : Value → Option Value} {es : Array MapEntry} {clock : Nat} (h : MapIs d n f es clock) {k v : Value} (hk : IsKey d k) (hno : ∀ x ∈ es.toList, x.key ≠ k) :
    MapIs d (n + 1) (updM f k v) (es.push { key := k, val := v, born := clock }) (clock + 1) := by
  refine ⟨stamped_push h.stamped hno, ?_, by simp [h.size], ?_⟩
  · intro x hx
    simp only [Array.toList_push, List.mem_append, List.mem_singleton] at hx
    rcases hx with hx | rfl
    · exact h.keys x hx
    · exact hk
  · intro k' v'
    by_cases e : k' = k
    · subst e
      rw [updM_self]
      constructor
      · intro e1; injection e1 with e1; subst e1
        exact ⟨{ key := k', val := v, born := clock }, by simp, rfl, rfl⟩
      · rintro ⟨x, hx, hxk, hxv⟩
        simp only [Array.toList_push, List.mem_append, List.mem_singleton] at hx
        rcases hx with hx | rfl
        · exact absurd hxk (hno x hx)
        · rw [← hxv]
    · rw [updM_ne _ e, h.is]
      constructor
      · rintro ⟨x, hx, hxk, hxv⟩
        exact ⟨x, by simp only [Array.toList_push, List.mem_append]; exact .inl hx, hxk, hxv⟩
      · rintro ⟨x, hx, hxk, hxv⟩
        simp only [Array.toList_push, List.mem_append, List.mem_singleton] at hx
        rcases hx with hx | rfl
        · exact ⟨x, hx, hxk, hxv⟩
        · exact absurd hxk.symm e
theorem MapIs.apart {d : TypeDesc} {n : Nat} {f : Value → Option Value} {es : Array MapEntry} {clock : Nat} (h : MapIs d n f es clock) {i j : Nat} {x y : MapEntry} (hi : es[i]? = some x) (hj : es[j]? = some y) (e : x.key = y.key) : i = j := by
  have hn := h.stamped.2.2
  have hi' : (es.toList.map (·.key))[i]? = some x.key := by simp [hi]
  have hj' : (es.toList.map (·.key))[j]? = some x.key := by simp [hj, e]
  exact (List.getElem?_inj (List.getElem?_eq_some_iff.1 hi').1 hn).1 (hi'.trans hj'.symm)
theorem MapIs.modify {d : TypeDesc} {n : Nat} {f : Value → Option Value} {es : Array MapEntry} {clock : Nat} (h : MapIs d n f es clock) {k v : Value} {j : Nat} {e : MapEntry} (hj : es[j]? = some e) (hek : e.key = k) :
    MapIs d n (updM f k v) (es.modify j fun e => { e with key := k, val := v }) clock := by
  have hkey : ∀ e', es[j]? = some e' → ({ e' with key := k, val := v } : MapEntry).key = e'.key := fun e' he' => by rw [hj] at he'; cases he'; exact hek.symm
  have hmem : ∀ x, x ∈ (es.modify j fun e => { e with key := k, val := v }).toList ↔ ∃ i y, es[i]? = some y ∧ x = if i = j then { y with key := k, val := v } else y := by
    intro x
    constructor
    · intro hx
      obtain ⟨i, hi⟩ := List.mem_iff_getElem?.1 hx
      rw [Array.getElem?_toList, Array.getElem?_modify] at hi
      by_cases hij : j = i
      · subst hij
        rw [if_pos rfl, hj] at hi
        simp at hi
        exact ⟨j, e, hj, by simp [hi]⟩
      · rw [if_neg hij] at hi
        exact ⟨i, x, hi, by rw [if_neg (Ne.symm hij)]⟩
    · rintro ⟨i, y, hy, rfl⟩
      refine List.mem_iff_getElem?.2 ⟨i, ?_⟩
      rw [Array.getElem?_toList, Array.getElem?_modify]
      by_cases hij : j = i
      · subst hij; simp [hy]
      · rw [if_neg hij, if_neg (Ne.symm hij)]; exact hy
  refine ⟨stamped_modify h.stamped _ _ (fun _ _ => rfl) (fun e' _ he' => hkey e' he'), isKey_modify h.keys _ _ hkey, by simp [h.size], ?_⟩
  intro k' v'
  by_cases ek : k' = k
  · subst ek
    rw [updM_self]
    constructor
    · intro e1; injection e1 with e1; subst e1
      exact ⟨_, (hmem _).2 ⟨j, e, hj, by rw [if_pos rfl]⟩, rfl, rfl⟩
    · rintro ⟨x, hx, hxk, hxv⟩
      obtain ⟨i, y, hy, rfl⟩ := (hmem x).1 hx
      by_cases hij : i = j
      · rw [if_pos hij] at hxv; rw [← hxv]
      · rw [if_neg hij] at hxk
        exact absurd (h.apart hy hj (hxk.trans hek.symm)) hij
  · rw [updM_ne _ ek, h.is]
    constructor
    · rintro ⟨x, hx, hxk, hxv⟩
      obtain ⟨i, hi⟩ := List.mem_iff_getElem?.1 hx
      have hi' : es[i]? = some x := by simpa using hi
      have hij : i ≠ j := fun e1 => by
        subst e1; rw [hj] at hi'; injection hi' with hi'; subst hi'
        exact ek (hxk.symm.trans hek)
      exact ⟨x, (hmem x).2 ⟨i, x, hi', by rw [if_neg hij]⟩, hxk, hxv⟩
    · rintro ⟨x, hx, hxk, hxv⟩
      obtain ⟨i, y, hy, rfl⟩ := (hmem x).1 hx
      by_cases hij : i = j
      · rw [if_pos hij] at hxk; exact absurd hxk.symm ek
      · rw [if_neg hij] at hxk hxv
        exact ⟨y, List.mem_iff_getElem?.2 ⟨i, by simpa using hy⟩, hxk, hxv⟩
theorem MapIs.erase {d : TypeDesc} {n : Nat} {f : Value → Option Value} {es : Array MapEntry} {clock : Nat} (h : MapIs d n f es clock) {k : Value} {j : Nat} {e : MapEntry} (hj : es[j]? = some e) (hek : e.key = k) :
    MapIs d (n - 1) (delM f k) (es.eraseIdxIfInBounds j) clock := by
  have hjl : j < es.size := (Array.getElem?_eq_some_iff.1 hj).1
  have htl : (es.eraseIdxIfInBounds j).toList = es.toList.eraseIdx j := by
    unfold Array.eraseIdxIfInBounds
    rw [dif_pos hjl, Array.toList_eraseIdx]
  have hmem : ∀ x, x ∈ (es.eraseIdxIfInBounds j).toList ↔ ∃ i, i ≠ j ∧ es[i]? = some x := by
    intro x
    rw [htl, List.mem_iff_getElem?]
    constructor
    · rintro ⟨i, hi⟩
      rw [List.getElem?_eraseIdx] at hi
      split at hi
      · exact ⟨i, by omega, by simpa using hi⟩
      · exact ⟨i + 1, by omega, by simpa using hi⟩
    · rintro ⟨i, hne, hi⟩
      rcases Nat.lt_or_ge i j with h1 | h1
      · exact ⟨i, by rw [List.getElem?_eraseIdx, if_pos h1]; simpa using hi⟩
      · refine ⟨i - 1, ?_⟩
        rw [List.getElem?_eraseIdx, if_neg (by omega), show i - 1 + 1 = i by omega]
        simpa using hi
  refine ⟨stamped_erase h.stamped j, ?_, ?_, ?_⟩
  · intro x hx
    obtain ⟨i, _, hi⟩ := (hmem x).1 hx
    exact h.keys x (List.mem_iff_getElem?.2 ⟨i, by simpa using hi⟩)
  · rw [← Array.length_toList, htl, List.length_eraseIdx, if_pos (by simpa using hjl), Array.length_toList, h.size]
  · intro k' v'
    by_cases ek : k' = k
    · subst ek
      rw [delM_self]
      constructor
      · intro e1; cases e1
      · rintro ⟨x, hx, hxk, hxv⟩
        obtain ⟨i, hne, hi⟩ := (hmem x).1 hx
        exact absurd (h.apart hi hj (hxk.trans hek.symm)) hne
    · rw [delM_ne _ ek, h.is]
      constructor
      · rintro ⟨x, hx, hxk, hxv⟩
        obtain ⟨i, hi⟩ := List.mem_iff_getElem?.1 hx
        have hi' : es[i]? = some x := by simpa using hi
        refine ⟨x, (hmem x).2 ⟨i, fun e1 => ?_, hi'⟩, hxk, hxv⟩
        subst e1; rw [hj] at hi'; injection hi' with hi'; subst hi'
        exact ek (hxk.symm.trans hek)
      · rintro ⟨x, hx, hxk, hxv⟩
        obtain ⟨i, _, hi⟩ := (hmem x).1 hx
        exact ⟨x, List.mem_iff_getElem?.2 ⟨i, by simpa using hi⟩, hxk, hxv⟩

/-! ### The operations -/
/-- A key of a type of kind k. -/
def keyX (k : TK) (sk : SV) (K : TypeDesc → Value → Prop) : Prop :=
  match sk with
  | .si (.ce (.val v)) => match v with
    | .int q a => match k with
      | .int q' => match decide (q = q') with
        | true => K (.int q) (.int q a)
        | false => False
      | _ => False
    | .string s => match k with
      | .string => K .string (.string s)
      | _ => False
    | .bool b => match k with
      | .bool => K .bool (.bool b)
      | _ => False
    | _ => False
  | _ => False
def sameD (d' d : TypeDesc) (K : Prop) : Prop :=
  match d', d with
  | .int q, .int q' => match decide (q = q') with
    | true => K
    | false => False
  | .string, .string => K
  | .bool, .bool => K
  | _, _ => False
theorem sameD_ok {d' d : TypeDesc} {K : Prop} (h : sameD d' d K) : d' = d ∧ K := by
  unfold sameD at h
  split at h
  · split at h
    · rename_i hq
      exact ⟨by rw [of_decide_eq_true hq], h⟩
    · exact h.elim
  · exact ⟨rfl, h⟩
  · exact ⟨rfl, h⟩
  · exact h.elim
/-- The map: its block, if it isn't nil. -/
def mapX (sm : SV) (d : TypeDesc) (G : List SB) (K : Option Nat → Nat → (Value → Option Value) → Prop) : Prop :=
  match sm with
  | .si (.ce (.self k)) => getG G k fun s => match s with
    | .map d' n f => sameD d' d (K (some k) n f)
    | _ => False
  | .si (.ce (.val (.map none))) => K none 0 fun _ => none
  | _ => False
def zeroX (ti : TI) (K : SV → Prop) : Prop :=
  zerosX ti.zero fun cs => match ti.agg with
    | true => K (.si (.ag cs))
    | false => match cs with
      | [c] => K (.si (.ce c))
      | _ => False
section
variable {P : Program}
theorem keyX_ok {t : TypeId} {ti : TI} (ht : TOk P t ti) {sk : SV} {K : TypeDesc → Value → Prop} (h : keyX ti.k sk K) : ∃ d v, K d v ∧ P.underlying t = some d ∧ IsKey d v ∧ ∀ ρ y, sk.Is ρ y → y = v := by
  unfold keyX at h
  split at h
  · rename_i v
    split at h
    · rename_i q a
      split at h
      · rename_i q' hk
        split at h
        · rename_i hq
          have hq := of_decide_eq_true hq
          subst hq
          exact ⟨_, _, h, ht.int hk, rfl, fun _ _ e => e⟩
        · exact h.elim
      · exact h.elim
    · split at h
      · rename_i hk; exact ⟨_, _, h, ht.string hk, trivial, fun _ _ e => e⟩
      · exact h.elim
    · split at h
      · rename_i hk; exact ⟨_, _, h, ht.bool hk, trivial, fun _ _ e => e⟩
      · exact h.elim
    · exact h.elim
  · exact h.elim
theorem mapX_ok {sm : SV} {d : TypeDesc} {G : List SB} {K : Option Nat → Nat → (Value → Option Value) → Prop} (h : mapX sm d G K) :
    (∃ k n f, sm = .si (.ce (.self k)) ∧ G[k]? = some (.map d n f) ∧ K (some k) n f) ∨ (sm = .si (.ce (.val (.map none))) ∧ K none 0 fun _ => none) := by
  unfold mapX at h
  split at h
  · rename_i k
    obtain ⟨s, hs, h⟩ := getG_ok h
    split at h
    · obtain ⟨e1, h'⟩ := sameD_ok h
      subst e1
      exact .inl ⟨_, _, _, rfl, hs, h'⟩
    · exact h.elim
  · exact .inr ⟨rfl, h⟩
  · exact h.elim
theorem zeroX_ok {t : TypeId} {ti : TI} (ht : TOk P t ti) {K : SV → Prop} (h : zeroX ti K) : ∃ sv z, K sv ∧ (∀ ρ, sv.Is ρ z) ∧ ∀ w, (zeroValue t).run P w = .ok z w := by
  obtain ⟨cs, h, hc⟩ := zerosX_ok h
  obtain ⟨z, hz, hzc, ha⟩ := ht.zeroVal
  cases hag : ti.agg with
  | true =>
    simp only [hag] at h
    rw [hag] at ha
    cases z <;> simp [isAggV] at ha
    rename_i xs
    refine ⟨_, _, h, fun ρ => ⟨xs.toList, rfl, ?_⟩, hz⟩
    have : xs.toList = ti.zero.map Z.val := hzc
    rw [this]; exact hc ρ
  | false =>
    simp only [hag] at h
    rw [hag] at ha
    split at h
    · rename_i c
      refine ⟨_, z, h, fun ρ => ?_, hz⟩
      have h1 := hc ρ
      rw [← hzc] at h1
      have h2 : z.cells.toList = [z] := by
        cases z <;> first | rfl | (simp [isAggV] at ha)
      rw [h2] at h1
      cases h1 with | cons h3 _ => exact h3
    · exact h.elim

/-- 'm[k]', 'v, ok := m[k]'. -/
def lookX (T : Tab) (t : TypeId) (sm sk : SV) (ok : Bool) (G : List SB) (K : SV → Prop) : Prop :=
  tabX T t fun ti => match ti.k with
    | .map kt et => tabX T kt fun ki => tabX T et fun ei => keyX ki.k sk fun d kv => mapX sm d G fun _ _ f => ∃ r, f kv = r ∧ match r with
      | none => zeroX ei fun sv => fin ok sv false K
      | some v => constX v fun sv => fin ok sv true K
    | _ => False
where fin (ok : Bool) (sv : SV) (b : Bool) (K : SV → Prop) : Prop :=
  match ok with
  | false => K sv
  | true => match sv with
    | .si g => K (.tu [g, .ce (.val (.bool b))])
    | _ => False
theorem lookX_fin {ok : Bool} {sv : SV} {b : Bool} {K : SV → Prop} (h : lookX.fin ok sv b K) : ∃ s, K s ∧ ∀ ρ v, sv.Is ρ v → s.Is ρ (if ok then .tuple #[v, .bool b] else v) := by
  unfold lookX.fin at h
  split at h
  · exact ⟨_, h, fun ρ v hv => hv⟩
  · split at h
    · exact ⟨_, h, fun ρ v hv => ⟨[v, .bool b], rfl, .cons hv (.cons rfl .nil)⟩⟩
    · exact h.elim
theorem lookX_ok {T : Tab} (hT : TabOk P T) {o : Oper} {t : TypeId} {m k : Operand} {ok : Bool} (ho : o.op = .lookup t m k ok) {F : Fr} {H : Hp} {G : List SB} {K : SV → Prop}
    (h : evX m F fun sm => evX k F fun sk => lookX T t sm sk ok G K) : QO P o F H G K := by
  obtain ⟨sm, h, hm⟩ := evX_ok h
  obtain ⟨sk, h, hk⟩ := evX_ok h
  obtain ⟨ti, ht, h⟩ := tabX_ok hT h
  cases htk : ti.k with
  | map kt et =>
    simp only [htk] at h
    obtain ⟨ki, hki, h⟩ := tabX_ok hT h
    obtain ⟨ei, hei, h⟩ := tabX_ok hT h
    obtain ⟨d, kv, h, hd, hkey, hkv⟩ := keyX_ok hki h
    -- the run, out of what the entries are
    have run : ∀ (a : Act) (w : World) (es : Array MapEntry) (n : Nat) (f : Value → Option Value) (clock : Nat) (z : Value), MapIs d n f es clock → (∀ w, (zeroValue et).run P w = .ok z w) → a.eval k = kv →
        ((∃ g, a.eval m = .map (some g) ∧ w.heap[g]? = some (.map es clock)) ∨ (a.eval m = .map none ∧ es = #[])) →
        (execOp a.eval o).run P w = .ok (.value (if ok then .tuple #[(f kv).getD z, .bool (f kv).isSome] else (f kv).getD z)) w := by
      intro a w es n f clock z hmi hz hk1 hm1
      rcases hmi.find hkey with ⟨h1, h2, _⟩ | ⟨j, e, h1, _, _, h2⟩
      · rcases hm1 with ⟨g, hg, hh⟩ | ⟨hg, rfl⟩
        · simp [execOp, ho, Instr.lookup, run_underlying (ht.map htk), hg, hk1, MapKept.run_getObj_map hh, MapKept.run_checkKey hd hkey, MapKept.run_findKey hd h1, Result.andThen, hz, h2]
        · simp [execOp, ho, Instr.lookup, run_underlying (ht.map htk), hg, hk1, MapKept.run_checkKey hd hkey, MapKept.run_findKey (l := []) hd (by simpa using h1), Result.andThen, hz, h2]
      · rcases hm1 with ⟨g, hg, hh⟩ | ⟨hg, rfl⟩
        · simp [execOp, ho, Instr.lookup, run_underlying (ht.map htk), hg, hk1, MapKept.run_getObj_map hh, MapKept.run_checkKey hd hkey, MapKept.run_findKey hd h1, Result.andThen, h2]
        · simp [Instr.findNow] at h1
    have body : ∀ (n : Nat) (f : Value → Option Value), (∃ r, f kv = r ∧ match r with
        | none => zeroX ei fun sv => lookX.fin ok sv false K
        | some v => constX v fun sv => lookX.fin ok sv true K) → (∀ (ρ : List Value) (a : Act) (wc : World), FOk ρ F a.tmps → Sw ρ H G wc → ∀ w, Sw ρ H G w →
          ∃ es clock, MapIs d n f es clock ∧ ((∃ g, a.eval m = .map (some g) ∧ w.heap[g]? = some (.map es clock)) ∨ (a.eval m = .map none ∧ es = #[]))) → QO P o F H G K := by
      intro n f ⟨r, hr, h⟩ hmm
      obtain ⟨z, hz, _⟩ := hei.zeroVal
      cases r with
      | none =>
        obtain ⟨sv, z', h, hsv, hz'⟩ := zeroX_ok hei h
        obtain ⟨s, h, hs⟩ := lookX_fin h
        refine ⟨s, h, fun ρ a wc hf hw => ⟨_, hs ρ _ (hsv ρ), fun w hw' => ?_⟩⟩
        obtain ⟨es, clock, hmi, hg⟩ := hmm ρ a wc hf hw w hw'
        rw [run a w es n f clock z' hmi hz' (hkv ρ _ (hk ρ a hf)) hg, hr]; rfl
      | some v =>
        obtain ⟨sv, h, hsv⟩ := constX_ok h
        obtain ⟨s, h, hs⟩ := lookX_fin h
        refine ⟨s, h, fun ρ a wc hf hw => ⟨_, hs ρ _ (hsv ρ), fun w hw' => ?_⟩⟩
        obtain ⟨es, clock, hmi, hg⟩ := hmm ρ a wc hf hw w hw'
        rw [run a w es n f clock z hmi hz (hkv ρ _ (hk ρ a hf)) hg, hr]; rfl
    rcases mapX_ok h with ⟨b, n, f, e0, hb, h'⟩ | ⟨e0, h'⟩ <;> subst e0
    · refine body n f h' fun ρ a wc hf hw w hw' => ?_
      obtain ⟨g, es, clock, e1, hh, hmi⟩ := hw'.ok b _ (a.eval m) hb (hm ρ a hf)
      exact ⟨es, clock, hmi, .inl ⟨g, e1, hh⟩⟩
    · exact body 0 _ h' fun ρ a wc hf hw w hw' => ⟨#[], 0, .empty d, .inr ⟨hm ρ a hf, rfl⟩⟩
  | _ => simp only [htk] at h

/-- 'make(map[..]..)', 'map[..]..{}'. -/
def makeMapX (T : Tab) (t : TypeId) (G : List SB) (K : SV → List SB → Prop) : Prop :=
  tabX T t fun ti => match ti.k with
    | .map kt _ => tabX T kt fun ki => kdX ki.k fun d => appG G (.map d 0 fun _ => none) fun G' n => K (.si (.ce (.self n))) G'
    | _ => False
where kdX (k : TK) (K : TypeDesc → Prop) : Prop :=
  match k with
  | .int q => K (.int q)
  | .string => K .string
  | .bool => K .bool
  | _ => False
theorem makeMapX_ok {T : Tab} (hT : TabOk P T) {o : Oper} {t : TypeId} (ho : o.op = .makeMap t none) {F : Fr} {H : Hp} {G : List SB} {K : SV → Hp → List SB → Prop} {Kp : List PanicEntry → Hp → List SB → Prop} (h : makeMapX T t G fun sv G' => K sv H G') : LO P o F H G K Kp := by
  obtain ⟨ti, ht, h⟩ := tabX_ok hT h
  cases htk : ti.k with
  | map kt et =>
    simp only [htk] at h
    obtain ⟨ki, hki, h⟩ := tabX_ok hT h
    have h' : ∃ d, appG G (.map d 0 fun _ => none) fun G' n => K (.si (.ce (.self n))) H G' := by
      unfold makeMapX.kdX at h
      split at h <;> first | exact ⟨_, h⟩ | exact h.elim
    obtain ⟨d, h⟩ := h'
    have h := appG_ok h
    intro w0 M hgd H0 ρ a w hs hf
    have hrun : (execOp a.eval o).run P w = .ok (.value (.map (some w.heap.size))) { w with heap := w.heap.push (.map #[] 0) } := by
      simp [execOp, ho, Instr.makeMap, newObj, Sem.run]
    rw [hrun]
    refine ⟨_, ρ ++ [.map (some w.heap.size)], H, _, hs.new (s := .map d 0 fun _ => none) ⟨_, #[], 0, rfl, heap_push_new, .empty d⟩ rfl, Pre.append _ _, ?_, .refl _, h⟩
    show (ρ ++ [Value.map (some w.heap.size)])[G.length]? = some _
    rw [List.getElem?_append_right (by rw [hs.len]; exact Nat.le_refl _)]
    simp [hs.len]
  | _ => simp only [htk] at h

def oneVal (sv : SV) (K : Value → Prop) : Prop :=
  match sv with
  | .si (.ce (.val v)) => K v
  | .si (.ag l) => allVal l fun vs => K (.agg vs.toArray)
  | _ => False
theorem oneVal_ok {sv : SV} {K : Value → Prop} (h : oneVal sv K) : ∃ v, K v ∧ ∀ ρ y, sv.Is ρ y → y = v := by
  unfold oneVal at h
  split at h
  · exact ⟨_, h, fun _ _ e => e⟩
  · obtain ⟨vs, h, hv⟩ := allVal_ok h
    exact ⟨_, h, fun ρ y ⟨ys, e, hy⟩ => by rw [e, hv ρ ys hy]⟩
  · exact h.elim
/-- 'm[k] = v'. -/
def updX (T : Tab) (t : TypeId) (sm sk sv : SV) (G : List SB) (K : List SB → Prop) : Prop :=
  tabX T t fun ti => match ti.k with
    | .map kt _ => tabX T kt fun ki => keyX ki.k sk fun d kv => oneVal sv fun v => mapX sm d G fun b n f => match b with
      | some b => (f kv = none → setG G b (.map d (n + 1) (updM f kv v)) K) ∧ (f kv ≠ none → setG G b (.map d n (updM f kv v)) K)
      | none => False
    | _ => False
theorem updX_ok {T : Tab} (hT : TabOk P T) {o : Oper} {t : TypeId} {m k x : Operand} (ho : o.op = .mapUpdate t m k x) {F : Fr} {H : Hp} {G : List SB} {K : SV → Hp → List SB → Prop} {Kp : List PanicEntry → Hp → List SB → Prop}
    (h : evX m F fun sm => evX k F fun sk => evX x F fun sv => updX T t sm sk sv G fun G' => K (pv undef) H G') : LO P o F H G K Kp := by
  obtain ⟨sm, h, hm⟩ := evX_ok h
  obtain ⟨sk, h, hk⟩ := evX_ok h
  obtain ⟨sv, h, hx⟩ := evX_ok h
  obtain ⟨ti, ht, h⟩ := tabX_ok hT h
  cases htk : ti.k with
  | map kt et =>
    simp only [htk] at h
    obtain ⟨ki, hki, h⟩ := tabX_ok hT h
    obtain ⟨d, kv, h, hd, hkey, hkv⟩ := keyX_ok hki h
    obtain ⟨v, h, hv⟩ := oneVal_ok h
    rcases mapX_ok h with ⟨b, n, f, e0, hb, h1, h2⟩ | ⟨e0, h'⟩ <;> subst e0
    · intro w0 M hgd H0 ρ a w hs hf
      have hρ := hm ρ a hf
      obtain ⟨g, es, clock, e1, hh, hmi⟩ := hs.ok b _ (a.eval m) hb hρ
      have e2 := hkv ρ _ (hk ρ a hf)
      have e3 := hv ρ _ (hx ρ a hf)
      have fin : ∀ (es' : Array MapEntry) (clock' n' : Nat), (execOp a.eval o).run P w = .ok .skip { w with heap := w.heap.setIfInBounds g (.map es' clock') } → MapIs d n' (updM f kv v) es' clock' → K (pv undef) H (G.set b (.map d n' (updM f kv v))) →
          Out P (fun v w' => ∃ sv ρ' H' G', St w0 M H0 ρ' H' G' w' ∧ Pre ρ ρ' ∧ sv.Is ρ' v ∧ H.Le H' ∧ K sv H' G') (fun ch w' => ∃ ρ' H' G', St w0 M H0 ρ' H' G' w' ∧ Pre ρ ρ' ∧ H.Le H' ∧ Kp ch H' G') ((execOp a.eval o).run P w) := by
        intro es' clock' n' hrun hmi' hK
        rw [hrun]
        refine ⟨_, ρ, H, _, hs.turn (g := g) hb hρ (by rw [e1]; rfl) rfl rfl rfl (by simp) (fun j _ hne => (heap_set hh).2 j hne) (s' := .map d n' (updM f kv v)) ⟨g, es', clock', e1, (heap_set hh).1, hmi'⟩ (.inl (by rw [e1]; rfl)), .refl _, pv_is _ _, .refl _, hK⟩
      rcases hmi.find hkey with ⟨h3, h4, h5⟩ | ⟨j, e, h3, h4, h5, h6⟩
      · refine fin _ _ (n + 1) ?_ (hmi.push hkey h5) (setG_ok (h1 h4)).2
        simp [execOp, ho, Instr.mapUpdate, run_underlying (ht.map htk), e1, e2, e3, MapKept.run_getObj_map hh, MapKept.run_checkKey hd hkey, MapKept.run_findKey hd h3, MapKept.run_setObj_map _ hh, Result.andThen]
      · refine fin _ _ n ?_ (hmi.modify h4 h5) (setG_ok (h2 (by rw [h6]; simp))).2
        simp [execOp, ho, Instr.mapUpdate, run_underlying (ht.map htk), e1, e2, e3, MapKept.run_getObj_map hh, MapKept.run_checkKey hd hkey, MapKept.run_findKey hd h3, h4, h5, run_keyThatStays hkey, MapKept.run_setObj_map _ hh, Result.andThen]
    · exact h'.elim
  | _ => simp only [htk] at h

/-- 'delete(m, k)'. -/
def delX (T : Tab) (t : TypeId) (sm sk : SV) (G : List SB) (K : List SB → Prop) : Prop :=
  tabX T t fun ti => match ti.k with
    | .map kt _ => tabX T kt fun ki => keyX ki.k sk fun d kv => mapX sm d G fun b n f => match b with
      | some b => (f kv = none → setG G b (.map d n (delM f kv)) K) ∧ (f kv ≠ none → setG G b (.map d (n - 1) (delM f kv)) K)
      | none => K G
    | _ => False
theorem delX_ok {T : Tab} (hT : TabOk P T) {o : Oper} {t kt0 : TypeId} {m k : Operand} (ho : o.op = .call ⟨.builtin .delete, #[m, k], #[t, kt0]⟩) {F : Fr} {H : Hp} {G : List SB} {K : SV → Hp → List SB → Prop} {Kp : List PanicEntry → Hp → List SB → Prop}
    (h : evX m F fun sm => evX k F fun sk => delX T t sm sk G fun G' => K (.tu []) H G') : LO P o F H G K Kp := by
  obtain ⟨sm, h, hm⟩ := evX_ok h
  obtain ⟨sk, h, hk⟩ := evX_ok h
  obtain ⟨ti, ht, h⟩ := tabX_ok hT h
  cases htk : ti.k with
  | map kt et =>
    simp only [htk] at h
    obtain ⟨ki, hki, h⟩ := tabX_ok hT h
    obtain ⟨d, kv, h, hd, hkey, hkv⟩ := keyX_ok hki h
    have b1 : ∀ (a : Act), (#[m, k] : Array Operand).map a.eval = #[a.eval m, a.eval k] := fun a => by simp
    rcases mapX_ok h with ⟨b, n, f, e0, hb, h1, h2⟩ | ⟨e0, h'⟩ <;> subst e0
    · intro w0 M hgd H0 ρ a w hs hf
      have hρ := hm ρ a hf
      obtain ⟨g, es, clock, e1, hh, hmi⟩ := hs.ok b _ (a.eval m) hb hρ
      have e2 := hkv ρ _ (hk ρ a hf)
      have fin : ∀ (es' : Array MapEntry) (n' : Nat), (execOp a.eval o).run P w = .ok (.value (.tuple #[])) { w with heap := w.heap.setIfInBounds g (.map es' clock) } → MapIs d n' (delM f kv) es' clock → K (.tu []) H (G.set b (.map d n' (delM f kv))) →
          Out P (fun v w' => ∃ sv ρ' H' G', St w0 M H0 ρ' H' G' w' ∧ Pre ρ ρ' ∧ sv.Is ρ' v ∧ H.Le H' ∧ K sv H' G') (fun ch w' => ∃ ρ' H' G', St w0 M H0 ρ' H' G' w' ∧ Pre ρ ρ' ∧ H.Le H' ∧ Kp ch H' G') ((execOp a.eval o).run P w) := by
        intro es' n' hrun hmi' hK
        rw [hrun]
        refine ⟨.tu [], ρ, H, _, hs.turn (g := g) hb hρ (by rw [e1]; rfl) rfl rfl rfl (by simp) (fun j _ hne => (heap_set hh).2 j hne) (s' := .map d n' (delM f kv)) ⟨g, es', clock, e1, (heap_set hh).1, hmi'⟩ (.inl (by rw [e1]; rfl)), .refl _, ⟨[], rfl, .nil⟩, .refl _, hK⟩
      rcases hmi.find hkey with ⟨h3, h4, h5⟩ | ⟨j, e, h3, h4, h5, h6⟩
      · refine fin es n ?_ ?_ (setG_ok (h1 h4)).2
        · simp [execOp, ho, resolve, b1, e1, e2, invoke, builtin, Builtin.delete_, run_underlying (ht.map htk), MapKept.run_getObj_map hh, MapKept.run_checkKey hd hkey, MapKept.run_findKey hd h3, MapKept.run_setObj_map _ hh, Result.andThen]
        · have e : delM f kv = f := by
            funext x
            by_cases hx : x = kv
            · rw [hx, delM_self, h4]
            · rw [delM_ne _ hx]
          rw [e]; exact hmi
      · refine fin _ (n - 1) ?_ (hmi.erase h4 h5) (setG_ok (h2 (by rw [h6]; simp))).2
        simp [execOp, ho, resolve, b1, e1, e2, invoke, builtin, Builtin.delete_, run_underlying (ht.map htk), MapKept.run_getObj_map hh, MapKept.run_checkKey hd hkey, MapKept.run_findKey hd h3, MapKept.run_setObj_map _ hh, Result.andThen]
    · intro w0 M hgd H0 ρ a w hs hf
      have e1 : a.eval m = .map none := hm ρ a hf
      have e2 := hkv ρ _ (hk ρ a hf)
      have hrun : (execOp a.eval o).run P w = .ok (.value (.tuple #[])) w := by
        simp [execOp, ho, resolve, b1, e1, e2, invoke, builtin, Builtin.delete_, run_underlying (ht.map htk), MapKept.run_checkKey hd hkey, Result.andThen]
      rw [hrun]
      exact ⟨.tu [], ρ, H, G, hs, .refl _, ⟨[], rfl, .nil⟩, .refl _, h'⟩
  | _ => simp only [htk] at h
end
end Go.Kx
