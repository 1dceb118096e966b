/- A row's bytes as a text without a copy: the two operations that lie under a builder's text. Generic in the program; no condition of its own. -/
import Derived.Test.YtfchdibbjaeocaaDoorKP
import Derived.Lib.UnsafeStr
namespace Go.Kx
open Go.RowKit

section
variable {P : Program}
theorem liesAt_off {e : TypeId} (hc : P.cellsOf e = 1) (count off n : Nat) (hn : off + n ≤ count) : liesAt P P.depth e count off e n = true := by
  have hd : P.depth = (2 * (P.types.size + Made.depth) + 1) + 1 := rfl
  rw [hd]
  simp only [liesAt, Bool.or_eq_true]
  left
  rw [hd]
  simp [rowAt, hc, hn, sameLayout, Nat.mod_one]
theorem run_unsafeString_at (w : World) (pt it ty e : TypeId) (hp : P.underlying pt = some (.pointer e)) (hc : P.cellsOf e = 1) (g o cells : Nat) (hsh : w.shape? g = some (e, cells)) (l : List UInt8) (h0 : l ≠ []) (hn : o + l.length ≤ cells) (h63 : l.length ≤ 9223372036854775807)
    (hcell : ∀ j x, l[j]? = some x → w.cell? ((⟨g, o, none⟩ : Addr).add j) = some (.int .u8 x.toNat)) :
    (Builtin.unsafeString_ #[pt, it] ty #[.pointer (some ⟨g, o, none⟩), .int .i64 l.length]).run P w = .ok (.string ⟨l.toArray⟩) (w.freeze ⟨g, o, none⟩ l.length) := by
  have hl : l.length ≠ 0 := by simpa using h0
  have hlb := Lib.run_loadBytes (P := P) w l ⟨g, o, none⟩ .empty hcell
  have hlies := liesAt_off (P := P) hc (cells / P.cellsOf e) o l.length (by rw [hc]; simpa using hn)
  have h63' : ¬ (9223372036854775807 : Int) < (l.length : Int) := by omega
  have hdef : Builtin.unsafeString_ #[pt, it] ty #[.pointer (some ⟨g, o, none⟩), .int .i64 l.length] =
      (do
        let n ← asInt (.int .i64 l.length)
        if n < 0 then runtimePanic (.error "unsafe.String: len out of range")
        if n > IntKind.i64.max then unsupported (.unsafePointer "String: a length above the largest int")
        if n = 0 then pure (.string .empty)
        else if ← variablesAt ⟨g, o, none⟩ (← elemOf pt) n.toNat then do
          let s ← loadBytes ⟨g, o, none⟩ .empty n.toNat
          freeze ⟨g, o, none⟩ n.toNat
          pure (.string s)
        else unsupported (.unsafePointer "String: not so many bytes at ptr")) := rfl
  rw [hdef]
  have hmax : IntKind.i64.max = 9223372036854775807 := rfl
  have hneg : ¬ (l.length : Int) < 0 := by omega
  simp [asInt, asIntOf, hmax, h63', hneg, hl, variablesAt, hsh, elemOf, run_underlying hp, hlies, hlb]
/-- Where a row of bytes lies. -/
def sdX (T : Tab) (ty : TypeId) (sx : SV) (G : List SB) (K : SV → Prop) : Prop :=
  tabX T ty fun ti => match ti.k with
    | .ptr _ => match sx with
      | .si (.ce (.val (.slice A _ _))) => match A with
        | none => K (pv (.pointer none))
        | some _ => False
      | .si (.ce (.self k)) => getG G k fun s => match s with
        | .row _ _ n _ => (0 < n → K (.si (.ce (.ptr k 0)))) ∧ (n = 0 → ∀ A, K (.si (.ce (.pp A 0))))
        | _ => False
      | _ => False
    | _ => False
theorem sdX_ok {T : Tab} (hT : TabOk P T) {o : Oper} {ts : Array TypeId} {s : Operand} (ho : o.op = .call ⟨.builtin .unsafeSliceData, #[s], ts⟩) {F : Fr} {H : Hp} {G : List SB} {K : SV → Hp → List SB → Prop} {Kp : List PanicEntry → Hp → List SB → Prop}
    (h : evX s F fun ss => sdX T o.type ss G fun sv => K sv H G) : LO P o F H G K Kp := by
  obtain ⟨ss, hA, hss⟩ := evX_ok h
  clear h
  obtain ⟨ti, ht, h⟩ := tabX_ok hT hA
  clear hA
  have b1 : ∀ (a : Act), (#[s] : Array Operand).map a.eval = #[a.eval s] := fun a => by simp
  have hrun : ∀ (a : Act) (w : World), (execOp a.eval o).run P w = ((Builtin.unsafeSliceData_ ts o.type #[a.eval s]).run P w).andThen fun v w' => .ok (.value v) w' := fun a w => by
    simp only [execOp, ho, resolve, invoke, builtin, b1, Sem.run_bind, Sem.run_pure, Result.andThen_ok]
  split at h
  · rename_i e htk
    split at h
    · rename_i A n c
      split at h
      · intro w0 M hgd H0 ρ a w hs hf
        have e1 : a.eval s = .slice none n c := hss ρ a hf
        rw [hrun, e1, Lib.run_unsafeSliceData_nil]
        exact ⟨pv (.pointer none), ρ, H, G, hs, .refl _, rfl, .refl _, h⟩
      · exact h.elim
    · rename_i k
      obtain ⟨sb, hsb, hB⟩ := getG_ok h
      clear h
      split at hB
      · rename_i et sz n xs
        obtain ⟨h1, h2⟩ := hB
        intro w0 M hgd H0 ρ a w hs hf
        have hρ : ρ[k]? = some (a.eval s) := hss ρ a hf
        have hrow := hs.ok k _ (a.eval s) hsb hρ
        rcases hrow.2 with ⟨e1, e2⟩ | ⟨g, o', cap, cur, e1, hg, hnc, hcm, hcs, _⟩
        · rw [hrun, e1, Lib.run_unsafeSliceData_nil]
          exact ⟨.si (.ce (.pp none 0)), ρ, H, G, hs, .refl _, rfl, .refl _, h2 e2 none⟩
        · by_cases hc0 : cap = 0
          · subst hc0
            have hn0 : n = 0 := by omega
            have hsh : w.shape? g = some (et, cur.size) := by simp [World.shape?, hg]
            rw [hrun, e1, Lib.run_unsafeSliceData_zero w ts o.type e (ht.ptr htk) ⟨g, o', none⟩ n _ hsh]
            have hgr : w.grownBy (w.alloc (.view ⟨g, o', none⟩ e)) none := ⟨rfl, rfl, rfl, by unfold World.alloc; simp, fun j hj _ => by unfold World.alloc; simp [Array.getElem?_push, Nat.ne_of_lt hj]⟩
            exact ⟨.si (.ce (.pp (some ⟨w.heap.size, 0, none⟩) 0)), ρ, H, G, hs.grew hgr (fun g e => by cases e), .refl _, rfl, .refl _, h2 hn0 _⟩
          · rw [hrun, e1, Lib.run_unsafeSliceData_row _ _ _ _ _ _ hc0]
            by_cases hn0 : n = 0
            · exact ⟨.si (.ce (.pp (some ⟨g, o', none⟩) 0)), ρ, H, G, hs, .refl _, rfl, .refl _, h2 hn0 _⟩
            · exact ⟨.si (.ce (.ptr k 0)), ρ, H, G, hs, .refl _, ⟨_, hρ, by rw [e1]; rfl⟩, .refl _, h1 (by omega)⟩
      · exact hB.elim
    · exact h.elim
  · exact h.elim
def ptrC (c : SC) (K : Prop) : Prop :=
  match c with
  | .val (.pointer none) => K
  | .ptr _ _ => K
  | .pp _ _ => K
  | _ => False
theorem ptrC_ok {c : SC} {K : Prop} (h : ptrC c K) : K ∧ ∀ ρ v, c.Is ρ v → ∃ q, v = .pointer q := by
  unfold ptrC at h
  split at h
  · exact ⟨h, fun ρ v e => ⟨_, e⟩⟩
  · refine ⟨h, fun ρ v ⟨r, _, e⟩ => ?_⟩
    unfold ptrAt at e
    split at e <;> first | (injection e with e; exact ⟨_, e.symm⟩) | cases e
  · exact ⟨h, fun ρ v e => ⟨_, e⟩⟩
  · exact h.elim
/-- Bytes from a place on as a text. -/
def usX (T : Tab) (pt : TypeId) (sp sn : SV) (G : List SB) (K : SV → List SB → Prop) : Prop :=
  tabX T pt fun pi => match pi.k with
    | .ptr e => tabX T e fun ei => natEq ei.size 1 <| plainX sn fun nv => match nv with
      | .int .i64 n => cellX sp fun c => ptrC c <| (n = 0 → K (pv (.string ⟨#[]⟩)) G) ∧ (n ≠ 0 → match c with
        | .ptr k 0 => getG G k fun s => match s with
          | .row e' sz _ xs => natEq e' e <| natEq sz 1 <| ∃ bs : ByteArray, xs = byteCells bs ∧ n = (bs.size : Int) ∧ bs.size ≤ 9223372036854775807 ∧ setG G k .dead fun G' => K (pv (.string bs)) G'
          | _ => False
        | _ => False)
      | _ => False
    | _ => False
theorem usX_ok {T : Tab} (hT : TabOk P T) {o : Oper} {pt it : TypeId} {p n : Operand} (ho : o.op = .call ⟨.builtin .unsafeString, #[p, n], #[pt, it]⟩) {F : Fr} {H : Hp} {G : List SB} {K : SV → Hp → List SB → Prop} {Kp : List PanicEntry → Hp → List SB → Prop}
    (h : evX p F fun sp => evX n F fun sn => usX T pt sp sn G fun sv G' => K sv H G') : LO P o F H G K Kp := by
  obtain ⟨sp, hA, hsp⟩ := evX_ok h
  clear h
  obtain ⟨sn, hB, hsn⟩ := evX_ok hA
  clear hA
  obtain ⟨pi, hpt, h⟩ := tabX_ok hT hB
  clear hB
  have b1 : ∀ (a : Act), (#[p, n] : Array Operand).map a.eval = #[a.eval p, a.eval n] := fun a => by simp
  have hrun : ∀ (a : Act) (w : World), (execOp a.eval o).run P w = ((Builtin.unsafeString_ #[pt, it] o.type #[a.eval p, a.eval n]).run P w).andThen fun v w' => .ok (.value v) w' := fun a w => by
    simp only [execOp, ho, resolve, invoke, builtin, b1, Sem.run_bind, Sem.run_pure, Result.andThen_ok]
  split at h
  · rename_i e hpk
    obtain ⟨ei, he, hC⟩ := tabX_ok hT h
    clear h
    obtain ⟨hsz, hD⟩ := natEq_ok hC
    clear hC
    obtain ⟨nv, rfl, h⟩ := plainX_ok hD
    clear hD
    split at h
    · rename_i nn
      obtain ⟨c, rfl, hE⟩ := cellX_ok h
      clear h
      obtain ⟨⟨h1, h2⟩, hpq⟩ := ptrC_ok hE
      clear hE
      intro w0 M hgd H0 ρ a w hs hf
      have e1 : c.Is ρ (a.eval p) := hsp ρ a hf
      have e2 : a.eval n = .int .i64 nn := hsn ρ a hf
      obtain ⟨q, e3⟩ := hpq ρ _ e1
      by_cases hn0 : nn = 0
      · subst hn0
        rw [hrun, e2, e3, Lib.run_unsafeString_none]
        exact ⟨pv (.string ⟨#[]⟩), ρ, H, G, hs, .refl _, rfl, .refl _, h1 rfl⟩
      · replace h2 := h2 hn0
        split at h2
        · rename_i k
          obtain ⟨sb, hsb, h3⟩ := getG_ok h2
          clear h2
          split at h3
          · rename_i e' sz m xs
            obtain ⟨rfl, h4⟩ := natEq_ok h3
            obtain ⟨rfl, bs, rfl, rfl, hbs, h5⟩ := natEq_ok h4
            obtain ⟨hk, h2⟩ := setG_ok h5
            obtain ⟨r, hr, hp⟩ := e1
            have hrow := hs.ok k _ r hsb hr
            have hlen := hrow.1
            rw [byteCells_length, Nat.mul_one] at hlen
            rcases hrow.2 with ⟨e4, e5⟩ | ⟨g, o', cap, cur, e4, hg, hnc, hcm, hcs, htk⟩
            · exact absurd (by rw [hlen, e5]; rfl) hn0
            · subst e4
              rw [e3] at hp
              have hp : (Value.pointer (some ⟨g, o' + 0, none⟩)) = .pointer q := Option.some.inj hp
              injection hp with hp
              subst hp
              rw [Nat.add_zero] at e3
              have hsh : w.shape? g = some (e', cur.size) := by simp [World.shape?, hg]
              have hcell : ∀ j x, bs.data.toList[j]? = some x → w.cell? ((⟨g, o', none⟩ : Addr).add j) = some (.int .u8 x.toNat) := by
                intro j x hx
                have hj : (byteCells bs)[j]? = some (.int .u8 x.toNat) := by simp [byteCells_map, hx]
                rw [← htk, List.getElem?_take] at hj
                split at hj
                · rw [List.getElem?_drop] at hj
                  rw [Addr.add_lit]
                  simp only [World.cell?, hg]
                  simpa using hj
                · cases hj
              have hl : bs.data.toList.length = bs.size := by rw [Array.length_toList]; rfl
              have hsz0 : bs.data.toList ≠ [] := fun h0 => hn0 (by rw [← hl, h0]; rfl)
              have hru := run_unsafeString_at (P := P) w pt it o.type e' (hpt.ptr hpk) (by rw [he.cells, hsz]) g o' cur.size hsh bs.data.toList hsz0 (by rw [hl]; omega) (by rw [hl]; exact hbs) hcell
              rw [hl] at hru
              rw [hrun, e2, e3, hru]
              have hfr : ∀ j, j ≠ g → (w.freeze ⟨g, o', none⟩ bs.size).heap[j]? = w.heap[j]? := fun j hj => by
                unfold World.freeze
                split
                · rfl
                · simp only [Array.getElem?_modify]; rw [if_neg (by omega)]
              have hfs : (w.freeze ⟨g, o', none⟩ bs.size).heap.size = w.heap.size := by unfold World.freeze; split <;> simp
              have ho3 : (w.freeze ⟨g, o', none⟩ bs.size).os = w.os ∧ (w.freeze ⟨g, o', none⟩ bs.size).tape = w.tape ∧ (w.freeze ⟨g, o', none⟩ bs.size).output = w.output := by unfold World.freeze; split <;> exact ⟨rfl, rfl, rfl⟩
              exact ⟨pv (.string bs), ρ, H, _, hs.turn (g := g) (s' := .dead) hsb hr rfl ho3.1 ho3.2.1 ho3.2.2 (Nat.le_of_eq hfs.symm) (fun j _ hne => hfr j hne) trivial (.inr rfl), .refl _, rfl, .refl _, h2⟩
          · exact h3.elim
        · exact h2.elim
    · exact h.elim
  · exact h.elim
end
end Go.Kx
