/- Scope texts: the library's Split at a space. No condition of its own. -/
import Derived.Test.YtfchdibbjaeocaaDoorScE
namespace Go.Kx.Sco
open Go.Proofs Go.Kx Go.RowKit Go.Sort
set_option maxRecDepth 20000
set_option linter.unusedSimpArgs false
theorem partsL_cur (c : UInt8) : ∀ (l cur : List UInt8), ∃ h t, partsL c [] l = h :: t ∧ partsL c cur l = (cur ++ h) :: t
  | [], cur => ⟨[], [], rfl, by simp [partsL]⟩
  | x :: r, cur => by
    unfold partsL
    split
    · exact ⟨[], _, rfl, by simp⟩
    · obtain ⟨h, t, h1, h2⟩ := partsL_cur c r [x]
      obtain ⟨h', t', h3, h4⟩ := partsL_cur c r (cur ++ [x])
      rw [h1] at h3
      injection h3 with h5 h6
      subst h5 h6
      exact ⟨_, _, h2, by rw [h4]; simp⟩
theorem splitK_parts (c : UInt8) : ∀ l : List UInt8, Lib.splitK [c] 0 (l.count c) l = partsL c [] l
  | [] => rfl
  | x :: r => by
    have ih := splitK_parts c r
    obtain ⟨h, t, h1, h2⟩ := partsL_cur c r [x]
    rw [h1] at ih
    unfold partsL
    by_cases hx : x = c
    · subst hx
      rw [if_pos rfl, List.count_cons_self, Lib.splitK]
      have : Lib.index (x :: r) [x] = 0 := by simp [Lib.index, List.isPrefixOf]
      rw [this, h1, ← ih]
      simp
    · rw [if_neg hx, List.nil_append, h2, List.count_cons_of_ne (by simpa using hx)]
      have hix : Lib.index (x :: r) [c] = if Lib.index r [c] == -1 then -1 else Lib.index r [c] + 1 := by
        rw [Lib.index]
        have : ([c] : List UInt8).isPrefixOf (x :: r) = false := by simp [List.isPrefixOf, Ne.symm hx]
        rw [this]; rfl
      cases hk : r.count c with
      | zero =>
        rw [hk] at ih
        simp only [Lib.splitK] at ih ⊢
        injection ih with i1 i2
        rw [← i1, ← i2]; rfl
      | succ k =>
        rw [hk] at ih
        simp only [Lib.splitK] at ih ⊢
        rw [hix]
        by_cases hm : Lib.index r [c] = -1
        · rw [hm] at ih ⊢
          simp only [beq_self_eq_true, if_true] at ih ⊢
          injection ih with i1 i2
          rw [← i1, ← i2]; rfl
        · have hge := Lib.index_ge r [c]
          have hb : (Lib.index r [c] == -1) = false := beq_eq_false_iff_ne.2 hm
          have hb2 : (Lib.index r [c] + 1 == -1) = false := beq_eq_false_iff_ne.2 (by omega)
          rw [hb] at ih ⊢
          simp only [Bool.false_eq_true, if_false] at ih ⊢
          rw [hb2]
          simp only [Bool.false_eq_true, if_false]
          injection ih with i1 i2
          have e : (Lib.index r [c] + 1).toNat = (Lib.index r [c]).toNat + 1 := by omega
          rw [e, Nat.add_zero, List.take_succ_cons]
          rw [Nat.add_zero] at i1
          rw [i1, ← i2]
          simp
namespace Pg
theorem gen_ (s : ByteArray) (hs : s.size ≤ 1000000) (H : Hp) : CallO Tryd.prog 41 [pv (.string s), pv (.string ⟨#[32]⟩), pv (.int .i64 0), pv (.int .i64 (-1))] H [] fun e H' G' => e = .ret (.si (.ce (.self 0))) ∧ H' = H ∧ G' = [.row 9 1 (partsL 32 [] s.data.toList).length (stC (partsL 32 [] s.data.toList))] := by
  have hsl : s.data.toList.length = s.size := by rw [Array.length_toList]; rfl
  have hcnt : Lib.countB s ⟨#[32]⟩ = s.data.toList.count 32 := by
    show Lib.count s.data.toList [32] = _
    exact Lib.count_one 32 _
  have hle : s.data.toList.count 32 ≤ s.size := by rw [← hsl]; exact List.count_le_length
  have hall := Lib.splitB_all ⟨#[32]⟩ (by decide) 0 _ s rfl
  have hparts : (Lib.splitB ⟨#[32]⟩ 0 (Lib.countB s ⟨#[32]⟩) s).map (·.data.toList) = partsL 32 [] s.data.toList := by
    rw [Lib.splitB_data, hcnt]
    exact splitK_parts 32 _
  have hcells : (Lib.splitB ⟨#[32]⟩ 0 (Lib.countB s ⟨#[32]⟩) s).map Value.string = stC (partsL 32 [] s.data.toList) := by
    rw [← hparts]
    unfold stC
    rw [List.map_map]
    refine List.map_congr_left fun x _ => ?_
    show Value.string x = Value.string ⟨x.data.toList.toArray⟩
    cases x; simp
  have hpl : (partsL 32 [] s.data.toList).length = Lib.countB s ⟨#[32]⟩ + 1 := by rw [← hparts, List.length_map, hall]
  refine (CallO.of_calls_row (P := Tryd.prog) (t := 9) (args := [.string s, .string ⟨#[32]⟩, .int .i64 0, .int .i64 (-1)]) (R := fun n xs => n = (partsL 32 [] s.data.toList).length ∧ xs = stC (partsL 32 [] s.data.toList)) fun w _ _ => ?_).mono ?_
  · refine (Any.strings_genSplit_core Tryd.laysGen (by kernel_rfl) s ⟨#[32]⟩ 0 (-1) (Lib.countB s ⟨#[32]⟩ + 1) w (by omega) (by decide) (by decide) (fun x c _ => ?_) ?_ (by decide) (by decide) (by rw [if_pos (by decide), hcnt]; omega)).mono ?_
    · refine (Any.strings_Index_one Tryd.laysIndex x 32 _).mono ?_
      rintro e w' ⟨rfl, rfl⟩
      refine ⟨?_, rfl⟩
      have : Lib.indexB x ⟨#[32]⟩ = Lib.indexByte x.data.toList 32 := Lib.index_one x.data.toList 32
      rw [this]
    · refine (Any.strings_Count_one Tryd.laysCount s 32 w).mono ?_
      rintro e w' ⟨rfl, rfl⟩
      rw [hcnt]
      exact ⟨rfl, rfl⟩
    · rintro e w' ⟨rfl, rfl⟩
      rw [Nat.add_sub_cancel, hall]
      have hcf : Lib.cellsOf (Lib.splitB ⟨#[32]⟩ 0 (Lib.countB s ⟨#[32]⟩) s) (Lib.countB s ⟨#[32]⟩ + 1) = (stC (partsL 32 [] s.data.toList)).toArray := by
        rw [← hall, Lib.cellsOf_full, hcells]
      rw [hcf]
      have hlen : (stC (partsL 32 [] s.data.toList)).length = Lib.countB s ⟨#[32]⟩ + 1 := by rw [stC_len, hpl]
      refine ⟨_, _, stC (partsL 32 [] s.data.toList), _, rfl, heap_alloc_new w _, hlen, Nat.le_refl _, ?_, ?_, ?_, ⟨hpl.symm, rfl⟩, ?_⟩
      · rw [hcnt]; simp only [maxLen]; omega
      · rw [List.size_toArray, hlen]; exact Nat.le_refl _
      · rw [← hlen]; exact List.take_of_length_le (Nat.le_refl _)
      · exact World.grownBy_alloc w _ none
  · rintro e H' G' hle ⟨n, xs, ⟨rfl, rfl⟩, rfl, rfl, rfl⟩
    exact ⟨rfl, rfl, rfl⟩
theorem split_ (s : ByteArray) (hs : s.size ≤ 1000000) (H : Hp) : CallO Tryd.prog 27 [pv (.string s), pv (.string ⟨#[32]⟩)] H [] fun e H' G' => e = .ret (.si (.ce (.self 0))) ∧ H' = H ∧ G' = [.row 9 1 (partsL 32 [] s.data.toList).length (stC (partsL 32 [] s.data.toList))] := by
  refine CallO.of_body tab Tryd.func27 rfl (nt := Tryd.f27.ntmps) rfl (by kernel_rfl) ?_
  (conv => whnf)
  refine ⟨⟨_, Tryd.func41, rfl, by kernel_rfl⟩, CallS.use (gen_ s hs H) [] rfl rfl trivial ?_⟩
  rintro e H1 G' hle1 ⟨rfl, rfl, rfl⟩
  (conv => whnf)
  exact ⟨rfl, rfl, rfl⟩
end Pg
end Go.Kx.Sco
