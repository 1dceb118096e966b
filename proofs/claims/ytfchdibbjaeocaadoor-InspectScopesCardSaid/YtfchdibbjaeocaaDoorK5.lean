/- Quiet operations, whole: one function over all kinds, and that what it tells is so. Generic in the program; no condition of its own. -/
import Derived.Test.YtfchdibbjaeocaaDoorK4
import Derived.Laws.Tables
namespace Go.Kx
open Go.RowKit

/-! ### Indexes -/
def idxAddrX (T : Tab) (ti : TI) (sx : SV) (n : Int) (G : List SB) (K : SV → Prop) : Prop :=
  match ti.k with
  | .slice e => tabX T e fun ei => match sx with
    | .si (.ce (.val (.slice A len _))) => (0 ≤ n ∧ n < (len : Int)) ∧ (∃ b o, A = some ⟨b, o, none⟩) ∧ K (.si (.ce (.pp A (n.toNat * ei.size))))
    | .si (.ce (.self k)) => getG G k fun s => match s with
      | .frz (.slice A len _) => (0 ≤ n ∧ n < (len : Int)) ∧ (∃ b o, A = some ⟨b, o, none⟩) ∧ K (.si (.ce (.pp A (n.toNat * ei.size))))
      | .row _ _ len _ => (0 ≤ n ∧ n < (len : Int)) ∧ K (.si (.ce (.ptr k (n.toNat * ei.size))))
      | _ => False
    | _ => False
  | .ar m _ sz => cellX sx fun c => match c with
    | .ptr k o => (0 ≤ n ∧ n < (m : Int)) ∧ K (.si (.ce (.ptr k (o + n.toNat * sz))))
    | .pp A o => (0 ≤ n ∧ n < (m : Int)) ∧ (∃ b o', A = some ⟨b, o', none⟩) ∧ K (.si (.ce (.pp A (o + n.toNat * sz))))
    | _ => False
  | _ => False
section
variable {P : Program}
theorem run_indexAt_slice {t e : TypeId} {ti ei : TI} (ht : TOk P t ti) (hk : ti.k = .slice e) (he : TOk P e ei) {a : Addr} {len cap : Nat} {kk : IntKind} {n : Int} (h : 0 ≤ n ∧ n < (len : Int)) (w : World) :
    (Instr.indexAt t (.slice (some a) len cap) (.int kk n)).run P w = .ok (.pointer (some (a.add (n.toNat * ei.size)))) w := by
  simp [Instr.indexAt, asIntOf, Go.underlying, program, Sem.run, ht.slice hk, h, he.sizeOf w]
theorem run_indexAt_array {t e : TypeId} {m sz : Nat} {ti : TI} (ht : TOk P t ti) (hk : ti.k = .ar m e sz) {a : Addr} {kk : IntKind} {n : Int} (h : 0 ≤ n ∧ n < (m : Int)) (w : World) :
    (Instr.indexAt t (.pointer (some a)) (.int kk n)).run P w = .ok (.pointer (some (a.add (n.toNat * sz)))) w := by
  obtain ⟨h1, i, h2, h3⟩ := ht.array hk
  simp [Instr.indexAt, asIntOf, Go.underlying, program, Sem.run, h1, h, Instr.sureAddr, sizeOf, typeInfo, h2, h3]
theorem add_mid (b o d : Nat) : (⟨b, o, none⟩ : Addr).add d = ⟨b, o + d, none⟩ := by unfold Addr.add; split <;> simp_all
theorem idxAddrX_ok {T : Tab} (hT : TabOk P T) {t : TypeId} {ti : TI} (ht : TOk P t ti) {sx : SV} {n : Int} {kk : IntKind} {H : Hp} {G : List SB} {K : SV → Prop} (h : idxAddrX T ti sx n G K) :
    ∃ sv, K sv ∧ ∀ (ρ : List Value) (wc : World) (p : Value), Sw ρ H G wc → sx.Is ρ p → ∃ v, sv.Is ρ v ∧ ∀ w, (Instr.indexAt t p (.int kk n)).run P w = .ok v w := by
  unfold idxAddrX at h
  cases hk : ti.k with
  | slice e =>
    simp only [hk] at h
    obtain ⟨ei, he, h0⟩ := tabX_ok hT h
    clear h
    rcases sx with ⟨⟨c⟩ | l⟩ | l
    · cases c with
      | val x =>
        cases x with
        | slice A len cap =>
          obtain ⟨h1, ⟨b, o, rfl⟩, h⟩ := h0
          refine ⟨_, h, fun ρ wc p _ hp => ?_⟩
          obtain rfl : p = _ := hp
          exact ⟨_, rfl, fun w => by rw [run_indexAt_slice ht hk he h1, add_mid]; rfl⟩
        | _ => exact h0.elim
      | self k =>
        obtain ⟨s, hs, h⟩ := getG_ok h0
        cases s with
        | frz x =>
          cases x with
          | slice A len cap =>
            obtain ⟨h1, ⟨b, o, rfl⟩, h⟩ := h
            refine ⟨_, h, fun ρ wc p hw hp => ?_⟩
            have hp' : ρ[k]? = some p := hp
            obtain rfl : p = _ := hw.ok k _ p hs hp'
            exact ⟨_, rfl, fun w => by rw [run_indexAt_slice ht hk he h1, add_mid]; rfl⟩
          | _ => exact h.elim
        | row e' sz' len xs =>
          obtain ⟨h1, h⟩ := h
          refine ⟨_, h, fun ρ wc p hw hp => ?_⟩
          have hp' : ρ[k]? = some p := hp
          rcases (hw.ok k _ p hs hp').2 with ⟨rfl, hn⟩ | ⟨g, oo, cap, cur, rfl, _⟩
          · omega
          · exact ⟨_, ⟨_, hp', rfl⟩, fun w => by rw [run_indexAt_slice ht hk he h1, add_mid]⟩
        | _ => exact h.elim
      | _ => exact h0.elim
    · exact h0.elim
    · exact h0.elim
  | ar m e sz =>
    simp only [hk] at h
    obtain ⟨c, rfl, h0⟩ := cellX_ok h
    clear h
    cases c with
    | ptr k o =>
      obtain ⟨h1, h⟩ := h0
      refine ⟨_, h, fun ρ wc p _ hp => ?_⟩
      obtain ⟨r, hr, hpt⟩ := hp
      have hx : ∃ b : Addr, r = .pointer (some b) ∨ ∃ n c, r = .slice (some b) n c := by
        unfold ptrAt at hpt
        split at hpt
        · exact ⟨_, .inl rfl⟩
        · exact ⟨_, .inr ⟨_, _, rfl⟩⟩
        · cases hpt
      obtain ⟨b, rfl | ⟨n', c', rfl⟩⟩ := hx
      · simp only [ptrAt, Option.some.injEq] at hpt
        subst hpt
        exact ⟨_, ⟨_, hr, rfl⟩, fun w => by rw [run_indexAt_array ht hk h1, add_mid]⟩
      · simp only [ptrAt, Option.some.injEq] at hpt
        subst hpt
        exact ⟨_, ⟨_, hr, rfl⟩, fun w => by rw [run_indexAt_array ht hk h1, add_mid, Nat.add_assoc]⟩
    | pp A o =>
      obtain ⟨h1, ⟨b, o', rfl⟩, h⟩ := h0
      refine ⟨_, h, fun ρ wc p _ hp => ?_⟩
      obtain rfl : p = _ := hp
      refine ⟨_, rfl, fun w => ?_⟩
      show (Instr.indexAt t (.pointer (some ⟨b, o' + _, none⟩)) (.int kk n)).run P w = _
      rw [run_indexAt_array ht hk h1, add_mid, Nat.add_assoc]
      rfl
    | _ => exact h0.elim
  | _ => simp only [hk] at h

/-- An index of a string, or of an array's value (its elements of one cell). -/
def idxX (T : Tab) (ti : TI) (sx : SV) (n : Int) (K : SV → Prop) : Prop :=
  match ti.k with
  | .string => strX sx fun s => (0 ≤ n ∧ n < (s.size : Int)) ∧ K (.si (.ce (.val (.int .u8 (byteAt s n)))))
  | .ar m e _ => tabX T e fun ei => match ei.agg with
    | false => aggX sx fun cs => (0 ≤ n ∧ n < (m : Int)) ∧ ∃ c, cs[n.toNat * ei.size]? = some c ∧ K (.si (.ce c))
    | true => False
  | _ => False
theorem idxX_ok {T : Tab} (hT : TabOk P T) {t : TypeId} {ti : TI} (ht : TOk P t ti) {sx : SV} {n : Int} {kk : IntKind} {K : SV → Prop} (h : idxX T ti sx n K) :
    ∃ sv, K sv ∧ ∀ (ρ : List Value) (p : Value), sx.Is ρ p → ∃ v, sv.Is ρ v ∧ ∀ w, (Instr.index t p (.int kk n)).run P w = .ok v w := by
  unfold idxX at h
  split at h
  · rename_i hk
    obtain ⟨s, rfl, h1, h⟩ := strX_ok h
    refine ⟨_, h, fun ρ p hp => ⟨_, rfl, fun w => ?_⟩⟩
    obtain rfl : p = _ := hp
    have hlt : n.toNat < s.size := by omega
    have hg : s[n.toNat]? = some s[n.toNat] := by simp [hlt]
    have hb : byteAt s n = (s[n.toNat].toNat : Int) := by
      unfold byteAt
      have : s.data.toList.getD n.toNat 0 = s[n.toNat] := by
        rw [List.getD_eq_getElem?_getD]
        have hl : n.toNat < s.data.toList.length := by simpa using hlt
        rw [List.getElem?_eq_getElem hl]; rfl
      rw [this]
    simp [Instr.index, asIntOf, Go.underlying, program, Sem.run, ht.string hk, h1.1, hg, hb]
  · rename_i m e sz hk
    obtain ⟨ei, he, h⟩ := tabX_ok hT h
    split at h
    · rename_i ha
      obtain ⟨cs, rfl, h1, c, hc, h⟩ := aggX_ok h
      refine ⟨_, h, fun ρ p hp => ?_⟩
      obtain ⟨ys, rfl, hys⟩ := hp
      obtain ⟨y, hy, hcy⟩ := hys.get hc
      refine ⟨y, hcy, fun w => ?_⟩
      simp [Instr.index, asIntOf, Go.underlying, program, Sem.run, (ht.array hk).1, h1, he.sizeOf w, part, he.isAgg w, ha, hy]
    · exact h.elim
  · exact h.elim

/-! ### Parts of a value -/
def partX (ft : TypeId) (T : Tab) (cs : List SC) (o : Nat) (K : SV → Prop) : Prop :=
  tabX T ft fun fi => match fi.agg with
    | false => getC cs o fun c => K (.si (.ce c))
    | true => dropC cs o fun l => takeC l fi.size fun l' => K (.si (.ag l'))
theorem partX_ok {T : Tab} (hT : TabOk P T) {ft : TypeId} {cs : List SC} {o : Nat} {K : SV → Prop} (h : partX ft T cs o K) :
    ∃ sv, K sv ∧ ∀ (ρ : List Value) (ys : List Value), All2 (SC.Is ρ) cs ys → ∃ v, sv.Is ρ v ∧ ∀ w, (part ft ys.toArray o).run P w = .ok v w := by
  obtain ⟨fi, hf, h⟩ := tabX_ok hT h
  split at h
  · rename_i ha
    obtain ⟨c, hc, h⟩ := getC_ok h
    refine ⟨_, h, fun ρ ys hys => ?_⟩
    obtain ⟨y, hy, hcy⟩ := hys.get hc
    exact ⟨y, hcy, fun w => by simp [part, hf.isAgg w, ha, hy]⟩
  · rename_i ha
    obtain ⟨_, h⟩ := dropC_ok h
    obtain ⟨_, h⟩ := takeC_ok h
    refine ⟨_, h, fun ρ ys hys => ⟨.agg ((ys.drop o).take fi.size).toArray, ⟨_, rfl, (hys.drop o).take fi.size⟩, fun w => ?_⟩⟩
    have : ys.toArray.extract o (o + fi.size) = ((ys.drop o).take fi.size).toArray := by
      simp [List.extract_toArray, List.extract_eq_take_drop]
    simp only [part, Sem.run_bind, hf.isAgg w, ha, hf.sizeOf w, Result.andThen_ok, if_true, this]; rfl

/-! ### build -/
def zerosX : List Z → (List SC → Prop) → Prop
  | [], K => K []
  | z :: r, K => zerosX r fun l => K (.val z.val :: l)
theorem zerosX_ok {l : List Z} {K : List SC → Prop} (h : zerosX l K) : ∃ cs, K cs ∧ ∀ ρ, All2 (SC.Is ρ) cs (l.map Z.val) := by
  induction l generalizing K with
  | nil => exact ⟨[], h, fun _ => .nil⟩
  | cons v r ih =>
    obtain ⟨cs, h1, h2⟩ := ih h
    exact ⟨_, h1, fun ρ => .cons rfl (h2 ρ)⟩
/-- l's cells from 'o' on are turned to ys. -/
def putC : List SC → Nat → List SC → (List SC → Prop) → Prop
  | l, _, [], K => K l
  | [], _, _ :: _, _ => False
  | _ :: r, 0, y :: ys, K => putC r 0 ys fun l => K (y :: l)
  | c :: r, o + 1, y :: ys, K => putC r o (y :: ys) fun l => K (c :: l)
def splice {α : Type} (l : List α) (o : Nat) (ys : List α) : List α := l.take o ++ ys ++ l.drop (o + ys.length)
theorem putC_ok : ∀ {l : List SC} {o : Nat} {ys : List SC} {K : List SC → Prop}, putC l o ys K → ∃ l', K l' ∧ (ys = [] ∨ o + ys.length ≤ l.length) ∧ (ys = [] ∧ l' = l ∨ l' = splice l o ys)
  | l, o, [], K, h => ⟨l, by cases l <;> cases o <;> exact h, .inl rfl, .inl ⟨rfl, rfl⟩⟩
  | [], o, y :: ys, K, h => by cases o <;> exact h.elim
  | c :: r, 0, y :: ys, K, h => by
    obtain ⟨l', h1, h2, h3⟩ := putC_ok (l := r) (o := 0) (ys := ys) h
    refine ⟨_, h1, .inr ?_, .inr ?_⟩
    · rcases h2 with rfl | h2 <;> simp <;> omega
    · rcases h3 with ⟨rfl, rfl⟩ | rfl
      · simp [splice]
      · simp [splice, Nat.add_comm]
  | c :: r, o + 1, y :: ys, K, h => by
    obtain ⟨l', h1, h2, h3⟩ := putC_ok (l := r) (o := o) (ys := y :: ys) h
    refine ⟨_, h1, .inr ?_, .inr ?_⟩
    · rcases h2 with h2 | h2
      · cases h2
      · simp at h2 ⊢; omega
    · rcases h3 with ⟨h3, _⟩ | rfl
      · cases h3
      · simp [splice, Nat.add_comm, Nat.add_left_comm]
        rw [show o + (ys.length + 2) = (o + (ys.length + 1)) + 1 by omega, List.drop_succ_cons]
def cellsX (sv : SV) (K : List SC → Prop) : Prop :=
  match sv with
  | .si (.ce c) => K [c]
  | .si (.ag l) => K l
  | _ => False
theorem cellsX_ok {sv : SV} {K : List SC → Prop} (h : cellsX sv K) : ∃ l, K l ∧ ∀ ρ v, sv.Is ρ v → ((∃ c, sv = .si (.ce c) ∧ l = [c]) ∨ ∃ ys, v = .agg ys ∧ All2 (SC.Is ρ) l ys.toList) := by
  unfold cellsX at h
  split at h
  · exact ⟨_, h, fun ρ v _ => .inl ⟨_, rfl, rfl⟩⟩
  · exact ⟨_, h, fun ρ v ⟨ys, h1, h2⟩ => .inr ⟨_, h1, by simpa using h2⟩⟩
  · exact h.elim
/-- A cell that is surely one: told by its shape. -/
def oneX (c : SC) (K : Prop) : Prop :=
  match c with
  | .val v => match v with
    | .agg _ => False
    | .tuple _ => False
    | _ => K
  | .ptr .. => K
  | .pp .. => K
  | .fn .. => K
  | _ => False
theorem oneX_ok {c : SC} {K : Prop} (h : oneX c K) : K ∧ ∀ ρ v, c.Is ρ v → v.oneCell' = true ∧ v.cells = #[v] := by
  cases c with
  | val x =>
    cases x with
    | agg _ => exact h.elim
    | tuple _ => exact h.elim
    | _ => exact ⟨h, fun ρ y hy => by obtain rfl : y = _ := hy; exact ⟨rfl, rfl⟩⟩
  | ptr k o =>
    refine ⟨h, fun ρ y hy => ?_⟩
    obtain ⟨r, _, hp⟩ := hy
    unfold ptrAt at hp
    split at hp <;> first | (injection hp with hp; subst hp; exact ⟨rfl, rfl⟩) | cases hp
  | pp A o => exact ⟨h, fun ρ y hy => by obtain rfl : y = _ := hy; exact ⟨rfl, rfl⟩⟩
  | fn f n l => exact ⟨h, fun ρ y hy => by obtain ⟨ys, rfl, _⟩ := hy; exact ⟨rfl, rfl⟩⟩
  | self _ => exact h.elim
  | any => exact h.elim
/-- .. or what stands for a block of one's own that is no box. -/
def selfOne (G : List SB) (k : Nat) (K : Prop) : Prop :=
  getG G k fun s => match s with
    | .row .. => K
    | .map .. => K
    | .frz (.slice ..) => K
    | _ => False
theorem selfOne_ok {G : List SB} {k : Nat} {K : Prop} (h : selfOne G k K) : K ∧ ∀ ρ H w v, Sw ρ H G w → ρ[k]? = some v → v.oneCell' = true ∧ v.cells = #[v] := by
  obtain ⟨s, hs, h⟩ := getG_ok h
  split at h
  · refine ⟨h, fun ρ H w v hw hv => ?_⟩
    rcases (hw.ok k _ v hs hv).2 with ⟨rfl, _⟩ | ⟨g, oo, cap, cur, rfl, _⟩ <;> exact ⟨rfl, rfl⟩
  · refine ⟨h, fun ρ H w v hw hv => ?_⟩
    obtain ⟨g, _, _, rfl, _⟩ := hw.ok k _ v hs hv
    exact ⟨rfl, rfl⟩
  · refine ⟨h, fun ρ H w v hw hv => ?_⟩
    obtain rfl : v = _ := hw.ok k _ v hs hv
    exact ⟨rfl, rfl⟩
  · exact h.elim
def oneGX (G : List SB) (c : SC) (K : Prop) : Prop :=
  match c with
  | .self k => selfOne G k K
  | c => oneX c K
theorem oneGX_ok {G : List SB} {c : SC} {K : Prop} (h : oneGX G c K) : K ∧ ∀ ρ H w v, Sw ρ H G w → c.Is ρ v → v.oneCell' = true ∧ v.cells = #[v] := by
  unfold oneGX at h
  split at h
  · obtain ⟨h1, h2⟩ := selfOne_ok h
    exact ⟨h1, h2⟩
  · obtain ⟨h1, h2⟩ := oneX_ok h
    exact ⟨h1, fun ρ _ _ v _ => h2 ρ v⟩
def allOne (G : List SB) : List SC → Prop → Prop
  | [], K => K
  | c :: r, K => oneGX G c (allOne G r K)
theorem allOne_ok {G : List SB} {l : List SC} {K : Prop} (h : allOne G l K) : K ∧ ∀ ρ H w ys, Sw ρ H G w → All2 (SC.Is ρ) l ys → ∀ v ∈ ys, v.oneCell' = true := by
  induction l with
  | nil => exact ⟨h, fun ρ H w ys _ hy v hv => by cases hy; cases hv⟩
  | cons c r ih =>
    obtain ⟨h1, h2⟩ := oneGX_ok h
    obtain ⟨h3, h4⟩ := ih h1
    refine ⟨h3, fun ρ H w ys hw hy v hv => ?_⟩
    cases hy with | cons h5 h6 =>
      rcases List.mem_cons.1 hv with rfl | hv
      · exact (h2 ρ H w _ hw h5).1
      · exact h4 ρ H w _ hw h6 v hv
end
end Go.Kx
