/- SHA-256's numbers and a block's numbers. No condition of its own. -/
import Derived.Test.YtjpjpdmceliofaaDoorShaA
namespace Go.Kx.Sha
open Go.Proofs Go.Kx
set_option maxRecDepth 20000

def kTab : List (BitVec 32) := [1116352408, 1899447441, 3049323471, 3921009573, 961987163, 1508970993, 2453635748, 2870763221, 3624381080, 310598401, 607225278, 1426881987, 1925078388, 2162078206, 2614888103, 3248222580, 3835390401, 4022224774, 264347078, 604807628, 770255983, 1249150122, 1555081692, 1996064986, 2554220882, 2821834349, 2952996808, 3210313671, 3336571891, 3584528711, 113926993, 338241895, 666307205, 773529912, 1294757372, 1396182291, 1695183700, 1986661051, 2177026350, 2456956037, 2730485921, 2820302411, 3259730800, 3345764771, 3516065817, 3600352804, 4094571909, 275423344, 430227734, 506948616, 659060556, 883997877, 958139571, 1322822218, 1537002063, 1747873779, 1955562222, 2024104815, 2227730452, 2361852424, 2428436474, 2756734187, 3204031479, 3329325298]
def kAt (t : Nat) : BitVec 32 := kTab.getD t 0
theorem kTab_get (t : Nat) (ht : t < 64) (i : Nat) (hi : i = t) : (kTab.map fun k => SC.val (.int .u32 (u k)))[i]? = some (.val (.int .u32 (u (kAt t)))) := by
  subst hi
  have hl : kTab.length = 64 := rfl
  rw [List.getElem?_map, kAt, List.getD_eq_getElem?_getD, List.getElem?_eq_getElem (by omega)]
  rfl
theorem kOf (t : Nat) (ht : t < 64) (H : Hp) : CallO Tryd.prog 136 [pv (.int .i64 (t : Int))] H [] fun e H' G' => e = .ret (uV (kAt t)) ∧ H' = H ∧ G' = [] := by
  refine CallO.of_body tab Tryd.func136 rfl (nt := Tryd.f136.ntmps) rfl (by kernel_rfl) ?_
  conv => whnf
  refine ⟨⟨by omega, by omega⟩, _, kTab_get t ht _ (by simp), ?_⟩
  conv => whnf
  exact ⟨rfl, rfl, rfl⟩
end Go.Kx.Sha
