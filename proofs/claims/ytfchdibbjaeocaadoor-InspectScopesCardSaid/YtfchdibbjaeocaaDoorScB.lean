/- Scope texts: the reference's parts of a text. No condition of its own. -/
import Derived.Test.YtfchdibbjaeocaaDoorScoA
import Derived.Test.YtfchdibbjaeocaaDoorSoA
import Derived.Lib.TrimByte
namespace Go.Kx.Sco
open Go.Proofs Go.Kx Go.RowKit Go.Sort
set_option maxRecDepth 20000
set_option linter.unusedSimpArgs false
/-- Texts in a row that is read alone. -/
def VAt (H : Hp) (A : Option Addr) (n : Nat) (vs : List Value) : Prop := n = vs.length ∧ (A = none → vs = []) ∧ ∀ a, A = some a → RdN H (some a) 0 vs
theorem VAt.mono {H H' : Hp} (h : H.Le H') {A : Option Addr} {n : Nat} {vs : List Value} (hb : VAt H A n vs) : VAt H' A n vs := ⟨hb.1, hb.2.1, fun a e => (hb.2.2 a e).mono h⟩
theorem VAt.of_frozen {H : Hp} {x : Value} {n : Nat} {vs : List Value} (hn : n = vs.length) (h : Frozen H x n vs) : ∃ A cap, x = .slice A n cap ∧ VAt H A n vs := by
  rcases h with ⟨rfl, h1, h2⟩ | ⟨g, o, cap, rfl, _, h2⟩
  · subst h1
    exact ⟨none, 0, rfl, hn, fun _ => h2, fun a e => (nomatch e)⟩
  · exact ⟨_, cap, rfl, hn, fun e => (nomatch e), fun a e => by injection e with e; subst e; exact h2⟩
theorem VAt.get {H : Hp} {A : Option Addr} {n : Nat} {vs : List Value} (h : VAt H A n vs) {i : Nat} {v : Value} (hi : vs[i]? = some v) {off : Nat} (ho : off = i) : RdC H A off v := by
  subst ho
  obtain ⟨h1, h2, h3⟩ := h
  cases A with
  | none => rw [h2 rfl] at hi; simp at hi
  | some a =>
    obtain ⟨b, o, e1, h4⟩ := h3 a rfl
    exact ⟨b, o, e1, by simpa using h4 _ _ hi⟩
theorem VAt.addr {H : Hp} {A : Option Addr} {n : Nat} {vs : List Value} (h : VAt H A n vs) (h0 : 0 < n) : ∃ b o, A = some ⟨b, o, none⟩ := by
  obtain ⟨h1, h2, h3⟩ := h
  cases A with
  | none => rw [h2 rfl] at h1; simp at h1; omega
  | some a =>
    obtain ⟨b, o, e1, _⟩ := h3 a rfl
    exact ⟨b, o, e1⟩
/-- Texts' cells. -/
def stC (L : List (List UInt8)) : List Value := L.map fun l => .string ⟨l.toArray⟩
theorem stC_strs (L : List (List UInt8)) : So.strs L = stC L := rfl
theorem stC_snoc (L : List (List UInt8)) (l : List UInt8) : stC (L ++ [l]) = stC L ++ [.string ⟨l.toArray⟩] := by unfold stC; rw [List.map_append]; rfl
theorem stC_len (L : List (List UInt8)) : (stC L).length = L.length := by unfold stC; simp
/-- The parts of a text, with a byte between them. -/
def partsL (c : UInt8) : List UInt8 → List UInt8 → List (List UInt8)
  | cur, [] => [cur]
  | cur, x :: r => if x = c then cur :: partsL c [] r else partsL c (cur ++ [x]) r
theorem partsL_len (c : UInt8) : ∀ (r cur : List UInt8), (partsL c cur r).length ≤ r.length + 1
  | [], cur => by simp [partsL]
  | x :: r, cur => by
    unfold partsL
    split
    · have := partsL_len c r []; simp only [List.length_cons]; omega
    · have := partsL_len c r (cur ++ [x]); simp only [List.length_cons]; omega
namespace RefN
def PI (s : ByteArray) (c : UInt8) (H : Hp) (k : Nat) (F : Fr) (H2 : Hp) (G : List SB) : Prop :=
  ∃ (i last : Nat) (L : List (List UInt8)), i ≤ s.size + 1 ∧ last ≤ i ∧ L.length ≤ i ∧ k = s.size + 1 - i ∧ (i ≤ s.size → L ++ partsL c ((s.data.toList.drop last).take (i - last)) (s.data.toList.drop i) = partsL c [] s.data.toList) ∧ (i = s.size + 1 → L = partsL c [] s.data.toList) ∧
    F = [(0, pv (.string s)), (1, pv (.int .u8 c.toNat)), (5, .si (.ce (.self 0))), (6, pv (.int .i64 last)), (7, pv (.int .i64 i))] ∧ H.Le H2 ∧ G = [.row 9 1 L.length (stC L)]
theorem parts0 (s : ByteArray) (hs : s.size ≤ 1000000) (c : UInt8) (H : Hp) : CallO Tryd.prog 33 [pv (.string s), pv (.int .u8 c.toNat)] H [] fun e _ G' => e = .ret (.si (.ce (.self 0))) ∧ G' = [.row 9 1 (partsL c [] s.data.toList).length (stC (partsL c [] s.data.toList))] := by
  have hsl : s.data.toList.length = s.size := by rw [Array.length_toList]; rfl
  refine CallO.of_body tab Tryd.func33 rfl (nt := Tryd.f33.ntmps) rfl (by kernel_rfl) ?_
  (conv => whnf)
  refine WS.nilRow 5 9 1 rfl ?_
  (conv => whnf)
  refine WS.loop (PI s c H) (s.size + 2) ?_ ?_
  · refine ⟨s.size + 1, by omega, _, _, [0], ⟨0, 0, [], by omega, by omega, Nat.le_refl _, rfl, fun _ => by simp, fun h => by omega, rfl, .refl _, rfl⟩, ?_⟩
    exact ⟨rfl, ⟨rfl, trivial⟩, rfl, rfl, rfl, rfl, rfl, trivial⟩
  rintro k F H2 G hle ⟨i, last, L, hi, hli, hLl, rfl, h1, h2, rfl, hle2, rfl⟩
  refine codeL.go tab ?_
  (conv => whnf)
  refine br.of (fun h3 => ?_) (fun h3 => ?_) <;> (conv => whnf)
  · simp only [decide_eq_true_eq] at h3
    have hin : i ≤ s.size := by omega
    have h1 := h1 hin
    clear h2
    have hcut : ∀ e, s.extract last i = e → (⟨((s.data.toList.drop last).take (i - last)).toArray⟩ : ByteArray) = e := by
      rintro e rfl
      have := Lib.extract_mk s.data.toList last i
      rw [← this]
    refine br.of (fun h4 => ?_) (fun h4 => ?_) <;> (conv => whnf)
    · simp only [beq_iff_eq] at h4
      obtain rfl : i = s.size := by omega
      refine ⟨⟨by omega, by omega, by omega⟩, ?_⟩
      (conv => whnf)
      refine ⟨by decide, ?_⟩
      (conv => whnf)
      refine .inl ?_
      intro g H3 hle3 hrd
      (conv => whnf)
      refine ⟨_, rfl, hrd, fun u hu => by rcases List.mem_singleton.1 hu with rfl; rfl, ?_⟩
      (conv => whnf)
      refine ⟨by show (L.length + 1) * 17 ≤ _; omega, ?_⟩
      (conv => whnf)
      rw [wrap64 (x := (s.size : Int) + 1) (by omega) (by omega)]
      have hex : (Value.string (s.extract (last : Int).toNat (s.size : Int).toNat)) = .string ⟨((s.data.toList.drop last).take (s.size - last)).toArray⟩ := by
        rw [hcut _ rfl]; rfl
      rw [hex]
      refine ⟨s.size + 1 - (s.size + 1), by omega, _, [.row 9 1 (L ++ [(s.data.toList.drop last).take (s.size - last)]).length (stC (L ++ [(s.data.toList.drop last).take (s.size - last)]))], [1], ⟨s.size + 1, s.size + 1, L ++ [(s.data.toList.drop last).take (s.size - last)], by omega, by omega, by simp; omega, rfl, fun hh => ?_, fun hh => ?_, rfl, hle2.trans hle3, rfl⟩, ?_⟩
      · omega
      · rw [← h1, List.drop_of_length_le (show s.data.toList.length ≤ s.size by omega), partsL]
      · refine ⟨rfl, ⟨?_, trivial⟩, rfl, rfl, rfl, rfl, rfl, trivial⟩
        rw [stC_snoc, List.length_append]; rfl
    · simp only [beq_eq_false_iff_ne, ne_eq] at h4
      refine ⟨⟨by omega, by omega⟩, ?_⟩
      obtain ⟨x, hx, hv⟩ := bAt s i (by omega)
      rw [hv]
      have hd : s.data.toList.drop i = x :: s.data.toList.drop (i + 1) := by
        rw [List.drop_eq_getElem?_toList_append, hx]; rfl
      rw [hd, partsL] at h1
      (conv => whnf)
      refine br.of (fun h5 => ?_) (fun h5 => ?_) <;> (conv => whnf)
      · simp only [beq_iff_eq] at h5
        have hxc : x = c := by
          have : x.toNat = c.toNat := by omega
          exact UInt8.toNat_inj.1 this
        refine ⟨⟨by omega, by omega, by omega⟩, ?_⟩
        (conv => whnf)
        refine ⟨by decide, ?_⟩
        (conv => whnf)
        refine .inl ?_
        intro g H3 hle3 hrd
        (conv => whnf)
        refine ⟨_, rfl, hrd, fun u hu => by rcases List.mem_singleton.1 hu with rfl; rfl, ?_⟩
        (conv => whnf)
        refine ⟨by show (L.length + 1) * 17 ≤ _; omega, ?_⟩
        (conv => whnf)
        rw [wrap64 (x := (i : Int) + 1) (by omega) (by omega)]
        have hex : (Value.string (s.extract (last : Int).toNat (i : Int).toNat)) = .string ⟨((s.data.toList.drop last).take (i - last)).toArray⟩ := by
          rw [hcut _ rfl]; rfl
        rw [hex]
        refine ⟨s.size + 1 - (i + 1), by omega, _, [.row 9 1 (L ++ [(s.data.toList.drop last).take (i - last)]).length (stC (L ++ [(s.data.toList.drop last).take (i - last)]))], [1], ⟨i + 1, i + 1, L ++ [(s.data.toList.drop last).take (i - last)], by omega, by omega, by simp; omega, rfl, fun hh => ?_, fun hh => ?_, rfl, hle2.trans hle3, rfl⟩, ?_⟩
        · rw [← h1, if_pos hxc, List.append_assoc]
          rw [Nat.sub_self, List.take_zero]; rfl
        · rw [← h1, if_pos hxc]
          have : i + 1 = s.size + 1 := hh
          omega
        · refine ⟨rfl, ⟨?_, trivial⟩, rfl, rfl, rfl, rfl, rfl, trivial⟩
          rw [stC_snoc, List.length_append]; rfl
      · simp only [beq_eq_false_iff_ne, ne_eq] at h5
        have hxc : ¬ x = c := fun h => h5 (by rw [h])
        rw [wrap64 (x := (i : Int) + 1) (by omega) (by omega)]
        refine ⟨s.size + 1 - (i + 1), by omega, _, _, [0], ⟨i + 1, last, L, by omega, by omega, by omega, rfl, fun hh => ?_, fun hh => by omega, rfl, hle2, rfl⟩, ?_⟩
        · rw [← h1, if_neg hxc]
          congr 2
          have e : i + 1 - last = (i - last) + 1 := by omega
          rw [e, List.take_add_one, List.getElem?_drop, show last + (i - last) = i by omega, hx]; rfl
        · exact ⟨rfl, ⟨rfl, trivial⟩, rfl, rfl, rfl, rfl, rfl, trivial⟩
  · simp only [decide_eq_false_iff_not] at h3
    obtain rfl : i = s.size + 1 := by omega
    have h2 := h2 rfl
    subst h2
    exact ⟨rfl, rfl⟩
/-- What hands out texts for good. -/
def RetV (L : List (List UInt8)) (e : SE) (H' : Hp) : Prop := ∃ B m c, e = .ret (pv (.slice B m c)) ∧ VAt H' B m (stC L)
theorem partsL_pos (c : UInt8) : ∀ (r cur : List UInt8), 0 < (partsL c cur r).length
  | [], cur => by simp [partsL]
  | x :: r, cur => by
    unfold partsL
    split
    · simp
    · exact partsL_pos c r _
theorem parts_ (s : ByteArray) (hs : s.size ≤ 1000000) (c : UInt8) (H : Hp) : CallO Tryd.prog 33 [pv (.string s), pv (.int .u8 c.toNat)] H [] fun e H' G' => RetV (partsL c [] s.data.toList) e H' ∧ G' = [] := by
  refine CallO.sub (CallO.frz (K := fun e H' G' => RetV (partsL c [] s.data.toList) e H' ∧ G' = [.dead]) (parts0 s hs c H) ?_) ?_
  · rintro e H' G' hle ⟨rfl, rfl⟩
    have hp := partsL_pos c s.data.toList []
    refine ⟨0, 9, 1, _, _, rfl, fun h0 => absurd h0 (by omega), fun x H2 hle2 hfr => ?_⟩
    obtain ⟨B, cc, rfl, hv⟩ := VAt.of_frozen (by rw [stC_len]) hfr
    exact ⟨⟨B, _, cc, rfl, hv⟩, rfl⟩
  · rintro e H' G' hle ⟨⟨B, m, cc, rfl, hv⟩, rfl⟩
    exact ⟨_, [], [], rfl, trivial, rfl, ⟨B, m, cc, rfl, hv⟩, rfl⟩
end RefN
end Go.Kx.Sco
