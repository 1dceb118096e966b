/- ReceiverNews: any call with arguments that read as data, the listed variables as listed, returns true and leaves all as it was; the row, and its tied card. No condition of its own. -/
import Derived.Test.YthffabmjfnnnaaaGreatDoorMQ18
import Derived.Test.YthffabmjfnnnaaaGreatDoorCards
import Derived.Test.YthffabmjfnnnaaaGreatDoorTie
import Derived.JoinedOf
import Derived.SevenTiedAt
import Derived.Deep.SlicePairs
namespace Go.Proofs.YthffabmjfnnnaaaGreatDoor.RowReceiverNews
open Go.Deep Go.ChangeMaps Go.ChangeShapes Go.WideShapes Go.ChangeAt Go.RowKit Go.Kx Go.Proofs RowLaid
section
variable {H : Type} {enc : TypeId × Value → H} {W : World}
theorem mem_all {P : Program} {e : TypeId} {d : DataW H} {n : Nat} (hn : n ∈ d.weights P e) : ∀ {l : List (DataW H)}, d ∈ l → n ∈ DataW.weightsAll P e l
 | [], h => by cases h
 | a :: r, h => by
  simp only [DataW.weightsAll]
  rcases List.mem_cons.1 h with rfl | h
  ·exact List.mem_append_left _ hn
  ·exact List.mem_append_right _ (mem_all hn h)
theorem open8 {base : Nat} {spare : Nat → Bool} {held : Bool} {w : World} {n : Nat} {cs : List Value} {x : DataW H × List MemPlace} (h : DataW.trod enc Tryz.prog w base spare held n 5 cs = some x) : ∃ y : UInt8, cs = [Value.int .u8 y.toNat] := by
 obtain ⟨a, e, _, wa⟩ := DataW.trod_int Tryz.underlying5 h
 subst e
 have h1 : IntKind.u8.min ≤ a ∧ a ≤ IntKind.u8.max := by simpa [Lit.wf] using wa
 rw [show IntKind.u8.min = 0 by decide, show IntKind.u8.max = 255 by decide] at h1
 refine ⟨UInt8.ofNat a.toNat, ?_⟩
 rw [UInt8.toNat_ofNat']
 congr 2
 omega
theorem flat8 (os : List UInt8) : os.flatMap (fun b : UInt8 => [Value.int .u8 b.toNat]) = bCells os := by
 unfold bCells
 induction os with
 | nil => rfl
 | cons b r ih => rw [List.flatMap_cons, ih]; rfl
theorem bytesZ {A : Option Addr} {os : List UInt8} (hrd : os = [] ∨ RdN (heapOf W) A 0 (os.flatMap fun b : UInt8 => [Value.int .u8 b.toNat])) : BytesZ (heapOf W) A os.length os := by
 rw [flat8 os] at hrd
 refine ⟨rfl, fun e => ?_, fun a e => ?_⟩
 ·rcases hrd with h | ⟨b, o, h, _⟩
  ·exact h
  ·rw [e] at h; cases h
 ·rcases hrd with h | h
  ·exact .inl (by rw [h]; rfl)
  ·rw [e] at h; exact .inr h
theorem one8 : Tryz.prog.bytesOf 5 = 1 := by kernel_rfl
theorem open_bytes {n : Nat} {v : Value} {x : DataW H × List MemPlace} (h : DataW.trod enc Tryz.prog W 0 (fun _ => true) true n 32 [v] = some x) (hw : ∀ m ∈ x.1.weights Tryz.prog 32, m ≤ reachBytes) :
  ∃ (A : Option Addr) (os : List UInt8) (c : Nat), v = .slice A os.length c ∧ BytesZ (heapOf W) A os.length os ∧ os.length ≤ 140737488355328 := by
 obtain ⟨A, c, os, hcs, hrd⟩ := rd_slice (fun b : UInt8 => [Value.int .u8 b.toNat]) (sz := 1) (fun _ => rfl) (by decide) Tryz.underlying32 (by kernel_rfl) (fun n cs x h => open8 h) h
 injection hcs with hcs _
 subst hcs
 refine ⟨A, os, c, rfl, bytesZ hrd, ?_⟩
 rcases open_slice Tryz.underlying32 h with ⟨h1, _⟩ | ⟨a, len, cap, m, k, D, Pl, h1, _, hl, _, hmm, rfl, _⟩
 ·injection h1 with h1 _
  injection h1 with _ h1 _
  omega
 ·injection h1 with h1 _
  injection h1 with _ h1 _
  have := hw ((((List.range len).map D).length + ((List.range (m - len)).map fun j => D (len + j)).length) * Tryz.prog.bytesOf 5) (by
   simp only [DataW.weights, Tryz.underlying32]
   exact List.mem_cons_self)
  rw [one8, Nat.mul_one, List.length_map, List.length_map, List.length_range, List.length_range] at this
  unfold reachBytes at this
  omega
theorem open_keys {n : Nat} {v : Value} {x : DataW H × List MemPlace} (h : DataW.trod enc Tryz.prog W 0 (fun _ => true) true n 39 [v] = some x) (hw : ∀ m ∈ x.1.weights Tryz.prog 39, m ≤ reachBytes) :
  ∃ (A : Option Addr) (ks : List Re.KS) (c : Nat), v = .slice A ks.length c ∧ ks.length ≤ c ∧ Re.KsAt (heapOf W) A ks.length ks ∧ ∀ y ∈ ks, BytesZ (heapOf W) y.A y.n y.bs ∧ y.n ≤ 140737488355328 := by
 rcases open_slice_pairs Tryz.underlying39 Tryz.underlying44 (by kernel_rfl) rfl rfl (by kernel_rfl) (by kernel_rfl) h with ⟨h1, _⟩ | ⟨a, len, cap, m, k, V0, V1, D0, D1, P0, P1, h1, _, hl, _, hmm, rfl, hx⟩
 ·injection h1 with h1 _
  subst h1
  exact ⟨none, [], 0, rfl, Nat.le_refl _, ⟨rfl, fun h => absurd h (by simp)⟩, fun y hy => by simp at hy⟩
 injection h1 with h1 _
 subst h1
 have hle : len ≤ m := by rw [hmm]; split <;> omega
 have hex : ∀ i, i < len → ∃ y : Re.KS, V0 i = .string y.kid ∧ V1 i = .slice y.A y.n y.c ∧ BytesZ (heapOf W) y.A y.n y.bs ∧ y.n ≤ 140737488355328 := fun i hi => by
  obtain ⟨_, _, h2, h3⟩ := hx i (by omega)
  obtain ⟨s, e, _, _⟩ := DataW.trod_string Tryz.underlying9 (show DataW.trod enc Tryz.prog W 0 (fun _ => true) true k 9 [V0 i] = some (D0 i, P0 i) from h2)
  injection e with e _
  obtain ⟨A, os, c, e2, hb, hbd⟩ := open_bytes (show DataW.trod enc Tryz.prog W 0 (fun _ => true) true k 32 [V1 i] = some (D1 i, P1 i) from h3) (fun q hq => hw q (by
   simp only [DataW.weights, Tryz.underlying39]
   refine List.mem_cons_of_mem _ (List.mem_append_left _ (mem_all (d := .agg [D0 i, D1 i]) ?_ (List.mem_map.2 ⟨i, List.mem_range.2 hi, rfl⟩)))
   simp only [DataW.weights, Tryz.underlying44]
   show q ∈ DataW.weightsEach Tryz.prog [9, 32] [D0 i, D1 i]
   simp only [DataW.weightsEach, List.mem_append]
   exact .inr (.inl hq)))
  exact ⟨⟨s, A, os.length, c, os⟩, e, e2, hb, hbd⟩
 have hlist : ∀ k, k ≤ len → ∃ ks : List Re.KS, ks.length = k ∧ ∀ (j : Nat) (y : Re.KS), ks[j]? = some y → V0 j = .string y.kid ∧ V1 j = .slice y.A y.n y.c ∧ BytesZ (heapOf W) y.A y.n y.bs ∧ y.n ≤ 140737488355328 := by
  intro k
  induction k with
  | zero => exact fun _ => ⟨[], rfl, fun j y h => by simp at h⟩
  | succ k ih =>
   intro hk
   obtain ⟨ks, hl, hks⟩ := ih (by omega)
   obtain ⟨y, hy⟩ := hex k (by omega)
   refine ⟨ks ++ [y], by simp [hl], fun j p hj => ?_⟩
   by_cases hjk : j < k
   ·rw [List.getElem?_append_left (by omega)] at hj; exact hks j p hj
   ·have hjl := (List.getElem?_eq_some_iff.1 hj).1
    simp at hjl
    obtain rfl : j = k := by omega
    rw [List.getElem?_append_right (by omega), hl] at hj
    simp at hj; subst hj; exact hy
 obtain ⟨ks, hkl, hks⟩ := hlist len (Nat.le_refl _)
 subst hkl
 refine ⟨some a, ks, cap, rfl, hl, ⟨rfl, fun h0 => ?_⟩, fun y hy => ?_⟩
 ·have hsp : a.spot = none := World.cell?_spot (by have := (hx 0 (by omega)).1; simpa [Addr.add] using this)
  obtain ⟨b, o, sp⟩ := a
  have hsp : sp = none := hsp
  subst hsp
  refine ⟨b, o, rfl, fun j v hv => ?_⟩
  have hv : (ks.flatMap Re.kCs)[j]? = some v := hv
  rw [flat_get (sz := 2) (fun _ => rfl) (by decide)] at hv
  obtain ⟨y, h1, h2⟩ := Option.bind_eq_some_iff.1 hv
  have hjl := (List.getElem?_eq_some_iff.1 h1).1
  obtain ⟨c1, c2, _, _⟩ := hx (j / 2) (by omega)
  obtain ⟨e1, e2, _, _⟩ := hks _ _ h1
  rw [Addr.add_lit] at c1 c2
  show W.cell? ⟨b, o + j, none⟩ = some v
  rcases Nat.mod_two_eq_zero_or_one j with h3 | h3
  ·rw [h3] at h2
   have h2 : some (Value.string y.kid) = some v := h2
   rw [← h2, ← e1, ← c1]
   congr 2
   omega
  ·rw [h3] at h2
   have h2 : some (Value.slice y.A y.n y.c) = some v := h2
   rw [← h2, ← e2, ← c2]
   congr 2
   omega
 ·obtain ⟨j, hj⟩ := List.mem_iff_getElem?.1 hy
  exact ⟨(hks j y hj).2.2.1, (hks j y hj).2.2.2⟩
end
set_option maxRecDepth 100000 in
theorem walk : LawWalkL Tryz.prog 4 Tryz.f4 laid := by
 intro H enc W args base ds p hA hval hsz hL
 rw [Tryz.params4] at hA hval hsz
 obtain ⟨v0, vs0, d0, ds0, p0, q0, hargs, rfl, rfl, h0, r0⟩ := trodAll_cons hA
 obtain ⟨v1, vs1, d1, ds1, p1, q1, rfl, rfl, rfl, h1, r1⟩ := trodAll_cons r0
 obtain ⟨v2, vs2, d2, ds2, p2, q2, rfl, rfl, rfl, h2, r2⟩ := trodAll_cons r1
 obtain ⟨rfl, rfl, rfl⟩ := trodAll_nil r2
 obtain rfl : args = #[v0, v1, v2] := by cases args; simp_all
 obtain ⟨iss, rfl, rfl, _, _⟩ := open_string Tryz.underlying9 (hval 0 9 v0 rfl rfl) h0
 obtain ⟨aud, rfl, rfl, _, _⟩ := open_string Tryz.underlying9 (hval 1 9 v1 rfl rfl) h1
 obtain ⟨A0, len, cap, rfl⟩ := okWide_slice Tryz.underlying39 (hval 2 39 v2 rfl rfl)
 obtain ⟨fs, hs⟩ := h2
 obtain ⟨A, ks, c, hv2, hc, hk, hb⟩ := open_keys (v := .slice A0 len cap) (show DataW.trod enc Tryz.prog W 0 (fun _ => true) true fs 39 [.slice A0 len cap] = some (d2, p2) from hs) (fun m hm => by
  have := List.all_eq_true.1 hsz m (by
   show m ∈ DataW.weightsEach Tryz.prog [9, 9, 39] _
   simp only [DataW.weightsEach, List.mem_append]
   exact .inr (.inr (.inl hm)))
  exact of_decide_eq_true this)
 injection hv2 with e1 e2 e3
 subst e1 e2 e3
 exact law_of (gd hL) (L30.news_ iss aud ks A0 ks.length cap hc (fun y hy => (hb y hy).2) (heapOf W) (errH hL) hk (fun y hy => (hb y hy).1)) (.cons rfl (.cons rfl (.cons rfl .nil))) (fun e _ _ h => h)
theorem spec (H : Type) (ds : List (DataW H)) (hl : ds.length = 3) : Rows.receiverNewsSpec.fn H ds = { results := [.lit (.bool true)], args := ds } := by
 match ds, hl with
 | [_, _, _], _ => rfl
set_option maxRecDepth 100000 in
theorem lifted (os : Os) (started : os.Started) (H : Type) (enc : TypeId × Value → H) :
  ReturnsInHanded {} Tryz.checked os 4 .any (fun w args => (Rows.receiverNewsSpec.pre enc Tryz.prog Tryz.f4 Rows.receiverNewsRow.domain false w args ∧ laidMetH Tryz.prog laid w) ∧ sizedMet enc Tryz.prog Tryz.f4 (OpenSpec.ofChange Rows.receiverNewsSpec) false w args) (Rows.receiverNewsSpec.post enc Tryz.prog Tryz.f4 false true false false) :=
 law_lifted_laid (C := Tryz.checked) (s := Rows.receiverNewsSpec) (conds := Rows.receiverNewsRow.domain) (tb := 4) own laidOut (by kernel_rfl) Tryz.func4 rfl (by kernel_rfl) Tryz.underlying4 (by kernel_rfl) spec walk os started H enc
  (ChangeSpec.witness_at (enc := enc) (C := Tryz.checked) (os := os) (X := fun w _ => laidMetH Tryz.prog laid w) false (laidWorld os) #[.string ⟨#[]⟩, .string ⟨#[]⟩, .slice Option.none 0 0] 8 rfl (by kernel_rfl) (by kernel_rfl) (by kernel_rfl) (by kernel_rfl) (by kernel_rfl) (laidWorld_met os _))
theorem over : Rows.receiverNewsRow.holds Tryz.pinned (OpenSpec.ofChange Rows.receiverNewsSpec) :=
 OpenClaim.holds_of_wide 4 Tryz.f4 rfl rfl rfl rfl rfl rfl rfl ⟨rfl, rfl, rfl, rfl, rfl⟩ rfl rfl rfl rfl rfl (by kernel_rfl) Tryz.func4 (by kernel_rfl)
  (of_decide_eq_true (by kernel_rfl)) (by unfold Func.isWrapper; first | (rw [if_pos (by decide +kernel)]; kernel_rfl) | (rw [if_neg (by decide +kernel)]; exact ⟨rfl, rfl⟩))
  (fun os started H enc _ => lifted os started H enc)
end Go.Proofs.YthffabmjfnnnaaaGreatDoor.RowReceiverNews
namespace Go.Proofs.YthffabmjfnnnaaaGreatDoor
theorem receiverNews_card : Rows.ReceiverNewsCardSaid :=
 Claim7.holds_tied_plain_at .later [] [.data, .data, .data, .data, .sentinel, .sentinel, .pinned] true (true, "ec4676953b341a6ffbd6d55efb6a9835fe98844d95c0faef2bbf0aaa47ff7310") true
  RowReceiverNews.over (fun _ h => by cases h) (by kernel_rfl) (fun _ h => by cases h) receiverNews_row_tie rfl ⟨rfl, rfl⟩ (by kernel_rfl) rfl
  (fun f fn hf hfn => by
   obtain rfl : f = 4 := Option.some.inj ((show Tryz.prog.funcNamed "klaxon/klaxonlaw30.ReceiverNews" = some 4 by kernel_rfl).symm.trans hf) |>.symm
   obtain rfl : fn = Tryz.f4 := (Option.some.inj (Tryz.func4.symm.trans hfn)).symm
   exact ⟨by kernel_rfl, fun j t ht => by
    rw [Tryz.params4] at ht
    have h3 : t = 9 ∨ t = 39 := by
     rcases j with _ | _ | _ | j
     ·left; simpa using ht.symm
     ·left; simpa using ht.symm
     ·right; simpa using ht.symm
     ·simp at ht
    rcases h3 with rfl | rfl
    ·exact (show Tryz.prog.wantsStandIn 9 = false by kernel_rfl)
    ·exact (show Tryz.prog.wantsStandIn 39 = false by kernel_rfl)⟩)
  (by kernel_rfl)
#print axioms receiverNews_card
end Go.Proofs.YthffabmjfnnnaaaGreatDoor
