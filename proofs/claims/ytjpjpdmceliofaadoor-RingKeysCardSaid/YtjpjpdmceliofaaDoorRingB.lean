/- Rings of keys, on: a key by its name. No condition of its own. -/
import Derived.Test.YtjpjpdmceliofaaDoorRingA
import Derived.Shelf.Small.Wraps
namespace Go.Proofs
open Go.Shelf
def Tryd.laysCutP_ren : Go.Shelf.Ren := ⟨fun | 103 => 37 | 210 => 50 | 206 => 80 | n => n, fun | 9 => 9 | 4 => 4 | 24 => 58 | 3 => 3 | n => n, fun | n => n⟩
theorem Tryd.laysCutP : Go.Proofs.Lays.n103 Tryd.prog Tryd.laysCutP_ren where
  mixed := by kernel_rfl
  f103 := Tryd.func37.trans (congrArg some (by kernel_rfl))
  f206 := Tryd.func80.trans (congrArg some (by kernel_rfl))
  f210 := Tryd.func50.trans (congrArg some (by kernel_rfl))
  t3 := Tryd.underlying3
  a3 := Tryd.isAgg3
  z3 := Tryd.sizeOf3
  v3 := Tryd.zeroValue3
  t4 := Tryd.underlying4
  a4 := Tryd.isAgg4
  z4 := Tryd.sizeOf4
  v4 := Tryd.zeroValue4
  t9 := Tryd.underlying9
  a9 := Tryd.isAgg9
  z9 := Tryd.sizeOf9
  v9 := Tryd.zeroValue9
  t24 := Tryd.underlying58
  a24 := Tryd.isAgg58
  z24 := Tryd.sizeOf58
  v24 := Tryd.zeroValue58

end Go.Proofs
namespace Go.Kx.Ring
open Go.Proofs Go.Kx Go.Kx.Sha Go.Kx.Lb
set_option maxRecDepth 20000

def ErrH (H : Hp) : Prop := ∀ g, (g = 0 ∨ g = 1) → ∃ te pe, H g 0 = some (.iface te pe)
theorem ErrH.mono {H H' : Hp} (h : H.Le H') (he : ErrH H) : ErrH H' := fun g hg => let ⟨te, pe, e⟩ := he g hg; ⟨te, pe, h _ _ _ e⟩
theorem cutP (s : ByteArray) (H : Hp) : CallO Tryd.prog 37 [pv (.string s), pv (.string ⟨#[107]⟩)] H [] fun e H' G' =>
    ∃ (t : ByteArray) (b : Bool), b = Lib.hasPrefix s.data.toList [107] ∧ t.data.toList = Lib.trimPrefix s.data.toList [107] ∧ t.size ≤ s.size ∧ e = .ret (.tu [.ce (.val (.string t)), .ce (.val (.bool b))]) ∧ H' = H ∧ G' = [] := by
  refine (CallO.of_calls (args := [.string s, .string ⟨#[107]⟩]) (R := fun v => v = .tuple #[.string ⟨(Lib.trimPrefix s.data.toList [107]).toArray⟩, .bool (Lib.hasPrefix s.data.toList [107])]) fun w hg _ => ?_).mono ?_
  · refine (Any.strings_CutPrefix Tryd.laysCutP s ⟨#[107]⟩ w).mono fun e w' ⟨he, hw⟩ => ⟨_, he, rfl, ?_⟩
    subst hw; exact grown_refl _
  · rintro e H' G' hle ⟨v, rfl, rfl, rfl, rfl⟩
    refine ⟨_, _, rfl, rfl, ?_, rfl, rfl, rfl⟩
    show (Lib.trimPrefix s.data.toList [107]).toArray.size ≤ s.size
    rw [List.size_toArray]
    unfold Lib.trimPrefix
    have : s.data.toList.length = s.size := rfl
    split
    · rw [List.length_drop]; omega
    · omega
/-- What a name's number is: 0, if no key that is kept has it. -/
def NumIs (count : Int) (kid : ByteArray) (m : Int) : Prop := (m ≠ 0 → oldest count ≤ m ∧ m ≤ count ∧ kid = kidB m) ∧ (∀ n, oldest count ≤ n → n ≤ count → kid = kidB n → m = n)
theorem itoa_dec {n : Int} (h : 0 ≤ n) : (itoaB n).data.toList = Lib.decDigits n.toNat := by
  show (Lib.itoa n).toArray.toList = _
  unfold Lib.itoa
  rw [if_neg (by omega)]
theorem kid_list (n : Int) : (kidB n).data.toList = 107 :: (itoaB n).data.toList := by
  unfold kidB
  rw [ByteArray.data_append, Array.toList_append]; rfl
theorem number_ (A : Option Addr) (n cap : Nat) (count : Int) (kid : ByteArray) (hk : kid.size ≤ 100) (hc : 1 ≤ count) (hc2 : count ≤ 1099511627776) (H : Hp) (hE : ErrH H) : CallO Tryd.prog 24 [.si (.ce (.ptr 0 0)), pv (.string kid)] H [ringB A n cap count] fun e H' G' =>
    ∃ m, NumIs count kid m ∧ e = .ret (pv (.int .i64 m)) ∧ H' = H ∧ G' = [ringB A n cap count] := by
  obtain ⟨o1, o2, o3⟩ := oldest_le count hc
  -- a kid that is one's is read as its number
  have key : ∀ u, oldest count ≤ u → u ≤ count → kid = kidB u → Lib.hasPrefix kid.data.toList [107] = true ∧ Lib.atoiAll (Lib.trimPrefix kid.data.toList [107]) = .ok u := by
    intro u h1 h2 h3
    have e1 : kid.data.toList = 107 :: Lib.decDigits u.toNat := by rw [h3, kid_list, itoa_dec (by omega)]
    have e2 : Lib.hasPrefix kid.data.toList [107] = true := by rw [e1]; unfold Lib.hasPrefix; simp
    have e3 : Lib.trimPrefix kid.data.toList [107] = Lib.decDigits u.toNat := by
      unfold Lib.trimPrefix
      rw [e2, e1]; simp
    refine ⟨e2, ?_⟩
    rw [e3, atoi_dec u.toNat (by omega)]
    congr 1; omega
  have none : (Lib.hasPrefix kid.data.toList [107] = false ∨ ∀ u, Lib.atoiAll (Lib.trimPrefix kid.data.toList [107]) ≠ .ok u) → NumIs count kid 0 := by
    intro h
    refine ⟨fun h => absurd rfl h, fun u h1 h2 h3 => ?_⟩
    obtain ⟨e1, e2⟩ := key u h1 h2 h3
    rcases h with h | h
    · rw [e1] at h; cases h
    · exact absurd e2 (h u)
  refine CallO.of_body tab Tryd.func24 rfl (nt := Tryd.f24.ntmps) rfl (by kernel_rfl) ?_
  conv => whnf
  refine ⟨⟨_, Tryd.func37, rfl, by kernel_rfl⟩, CallS.use (cutP kid H) [] rfl rfl trivial ?_⟩
  rintro e H2 G' hle ⟨t, b, hb, ht, hts, rfl, rfl, rfl⟩
  rw [← hb, ← ht] at none
  conv => whnf
  refine ⟨⟨_, Tryd.func38, rfl, by kernel_rfl⟩, CallS.use (atoi t (by omega) H2 [] hE) [] rfl rfl trivial ?_⟩
  rintro e H3 G' hle2 ⟨⟨v, x, rfl, hv⟩, rfl, rfl⟩
  cases b with
  | false =>
    conv => whnf
    exact ⟨0, none (.inl rfl), rfl, rfl, rfl⟩
  | true =>
    rcases hv with ⟨hv, rfl⟩ | ⟨hv, te, pe, rfl⟩
    · obtain ⟨vb0, vb1⟩ := Lib.atoiAll_bounds hv
      conv => whnf
      refine ⟨⟨_, Tryd.func23, rfl, by kernel_rfl⟩, CallS.use (name_ v (by omega) (by omega) H3) [] rfl rfl trivial ?_⟩
      rintro e H4 G' hle3 ⟨rfl, rfl, rfl⟩
      conv => whnf
      have uniq : ∀ u, oldest count ≤ u → u ≤ count → kid = kidB u → u = v := by
        intro u h1 h2 h3
        obtain ⟨_, e2⟩ := key u h1 h2 h3
        rw [ht] at hv
        rw [e2] at hv
        injection hv
      refine br.of (fun h1 => ?_) (fun h1 => ?_) <;> conv => whnf
      · simp only [Bool.not_eq_true', strEq_false] at h1
        refine ⟨0, ⟨fun h => absurd rfl h, fun u h2 h3 h4 => ?_⟩, rfl, rfl, rfl⟩
        have := uniq u h2 h3 h4
        subst this
        exact absurd h4.symm h1
      · simp only [Bool.not_eq_false', strEq_iff] at h1
        refine ⟨⟨_, Tryd.func22, rfl, by kernel_rfl⟩, CallS.use (oldest_ A n cap count hc hc2 H4) [0] rfl rfl ⟨rfl, trivial⟩ ?_⟩
        rintro e H5 G' hle4 ⟨rfl, rfl, rfl⟩
        conv => whnf
        refine br.of (fun h2 => ?_) (fun h2 => ?_) <;> conv => whnf
        · simp only [decide_eq_true_eq] at h2
          refine ⟨0, ⟨fun h => absurd rfl h, fun u h3 h4 h5 => ?_⟩, rfl, rfl, rfl⟩
          have := uniq u h3 h4 h5
          omega
        · simp only [decide_eq_false_iff_not] at h2
          refine br.of (fun h3 => ?_) (fun h3 => ?_) <;> conv => whnf
          · simp only [gt_iff_lt, decide_eq_true_eq] at h3
            refine ⟨0, ⟨fun h => absurd rfl h, fun u h4 h5 h6 => ?_⟩, rfl, rfl, rfl⟩
            have := uniq u h4 h5 h6
            omega
          · simp only [gt_iff_lt, decide_eq_false_iff_not] at h3
            exact ⟨v, ⟨fun _ => ⟨by omega, by omega, h1.symm⟩, fun u h4 h5 h6 => (uniq u h4 h5 h6).symm⟩, rfl, rfl, rfl⟩
    · conv => whnf
      exact ⟨0, none (.inr hv), rfl, rfl, rfl⟩
end Go.Kx.Ring
