/- The library's Clone and Contains at sites in memory. -/
import Derived.Test.YtfgefjpgmfjmjaaGreatDoorIxFind
namespace Go.Proofs.YtfgefjpgmfjmjaaGreatDoor
open Go Go.RowKit Go.Shelf Go.Lib

section
variable {P : Program} {ρ : Ren}
set_option maxHeartbeats 2000000 in
set_option maxRecDepth 100000 in
/-- Clone of a slice of no elements that is not nil. -/
theorem clone_zero (L : SlLaysE0.n41 P ρ) (i0 : TypeInfo) (z : Value) (size bytes : Nat) (hi : P.info? (ρ.t 23) = some i0) (hz0 : i0.zero = some z) (hz1 : i0.size = size) (hz2 : i0.bytes = bytes) (hzs : z.cells.size = size) (hsz : 0 < size)
    (z23 : ∀ w, (Go.sizeOf (ρ.t 23)).run P w = .ok size w) (a : Addr) (c : Nat) (w : World) :
    Calls P (ρ.f 41) #[.slice (some a) 0 c] w fun e w' => ∃ v', e = .returned v' ∧ w'.ownsRow w.heap.size (ρ.t 23) size v' 0 [] ∧ Below w.heap.size w w' := by
  have mixed := L.mixed; have t4 := L.t4; have a4 := L.a4; have z4 := L.z4; have v4 := L.v4; have t22 := L.t22; have a22 := L.a22; have z22 := L.z22; have v22 := L.v22
  have q22 : ∀ (w : World) (a : Option Addr) (n c n' c' : Nat), (binOp .eql (ρ.t 22) (.slice a n c) (.slice none n' c')).run P w = .ok (.bool a.isNone) w := fun w a n c n' c' => Lib.run_eql_slice_nil w _ _ a n c n' c' L.t22
  have u22 : ∀ w, Sem.run P (underlying (ρ.t 22)) w = .ok (TypeDesc.slice (ρ.t 23)) w := run_underlying t22
  obtain ⟨_, _, FG⟩ := L.f41
  go_enter FG, SlBodyN.n41_ntmps ρ
  go_wp2_with (at_builtin; refine wpList_append_own _ rfl _ _ (ρ.t 22) rfl w.heap.size (ρ.t 23) i0 z size bytes t22 hi hz0 hz1 hz2 hzs hsz _ _ _ rfl (World.ownsRow_made w #[] 0 (Nat.le_refl _) (Nat.zero_le _) (by simp)) a 0 c [] rfl (by simp) (by intro j u hj; simp at hj) (by intro u hu; cases hu) (by unfold maxLen; omega) (by omega) (by simp) ?_)
  intro v' w1 hown hgrow _
  go_wp2
  go_ret
  refine ⟨v', rfl, by simpa using hown, ?_⟩
  exact ((Below.refl _ w).alloc (Nat.le_refl _) _).grown hgrow (by simp) (by intro k hk; simp [Value.ownBlock] at hk; omega)
end

theorem flat_get {α : Type} [Inhabited α] {enc : α → List Value} {k : Nat} (hk : ∀ x, (enc x).length = k) : ∀ (l : List α) (j : Nat), j < l.length → ∀ i, i < k → (l.flatMap enc)[j * k + i]? = (enc l[j]!)[i]?
  | [], j, hj, _, _ => by simp at hj
  | x :: l, 0, _, i, hi => by
    have h : i < (enc x).length := by rw [hk]; exact hi
    rw [List.flatMap_cons, Nat.zero_mul, Nat.zero_add, List.getElem?_append_left h]
    rfl
  | x :: l, j + 1, hj, i, hi => by
    rw [List.flatMap_cons, List.getElem?_append_right (by rw [hk, Nat.add_mul]; omega), hk, show (j + 1) * k + i - k = j * k + i by rw [Nat.add_mul]; omega, flat_get hk l j (by simpa using hj) i hi]
    rfl
theorem flat_len {α : Type} {enc : α → List Value} {k : Nat} (hk : ∀ x, (enc x).length = k) : ∀ (l : List α), (l.flatMap enc).length = l.length * k
  | [] => by simp
  | x :: l => by rw [List.flatMap_cons, List.length_append, hk, flat_len hk l, List.length_cons, Nat.add_mul]; omega
theorem flat_split {α : Type} [Inhabited α] {enc : α → List Value} {k : Nat} (hk : ∀ x, (enc x).length = k) (l : List α) {j : Nat} {u : Value} (h : (l.flatMap enc)[j]? = some u) : ∃ a i, a < l.length ∧ i < k ∧ j = a * k + i ∧ (enc l[a]!)[i]? = some u := by
  have hj : j < l.length * k := by rw [← flat_len hk l]; exact (List.getElem?_eq_some_iff.1 h).1
  have hk0 : 0 < k := by
    rcases Nat.eq_zero_or_pos k with rfl | h
    · simp at hj
    · exact h
  have ha : j / k < l.length := Nat.div_lt_of_lt_mul (by rw [Nat.mul_comm]; exact hj)
  have hi : j % k < k := Nat.mod_lt _ hk0
  have e : j = j / k * k + j % k := by rw [Nat.mul_comm]; exact (Nat.div_add_mod j k).symm
  refine ⟨j / k, j % k, ha, hi, e, ?_⟩
  rw [← flat_get hk l _ ha _ hi, ← e]; exact h

theorem siteLen (x : Site) : (encSite x).length = 2 := rfl
theorem SitesAt.of_owns {w : World} {B : Nat} {v : Value} {l : List Site} (h : w.ownsRow B 60 2 v l.length (l.flatMap encSite)) : SitesAt w v l := by
  obtain ⟨hx, h | h⟩ := h
  · obtain ⟨rfl, hn⟩ := h
    exact ⟨none, 0, by rw [hn], by rw [hn]; exact Nat.zero_le _, fun h => by omega⟩
  · obtain ⟨g, cap, cur, rfl, hb, hg, hc, hm, hs, ht⟩ := h
    refine ⟨_, _, rfl, Nat.le_trans hc hm, fun h0 => ⟨g, 0, rfl, fun j hj i u hu => ?_⟩⟩
    have hi : i < 2 := by have := (List.getElem?_eq_some_iff.1 hu).1; rw [siteLen] at this; exact this
    rw [← flat_get siteLen l j hj i hi, ← ht, List.getElem?_take_of_lt (by omega)] at hu
    simp only [World.cell?, hg]
    simpa using hu

theorem SitesAt.mono {B : Nat} {w w' : World} {v : Value} {l : List Site} (h : SitesAt w v l) (hB : Below B w w') (hw : w.heap.size ≤ B) : SitesAt w' v l := by
  obtain ⟨oa, c, e, hm, hc⟩ := h
  refine ⟨oa, c, e, hm, fun h0 => ?_⟩
  obtain ⟨b, off, e, hx⟩ := hc h0
  exact ⟨b, off, e, fun j hj i u hu => (hB.cell (Nat.lt_of_lt_of_le (World.block_lt_of_cell? w _ (hx j hj i u hu)) hw)).trans (hx j hj i u hu)⟩

theorem oneCell_site {l : List Site} : ∀ u ∈ l.flatMap encSite, u.oneCell' = true := by
  intro u hu
  obtain ⟨x, _, hx⟩ := List.mem_flatMap.1 hu
  simp [encSite] at hx
  rcases hx with rfl | rfl <;> rfl

theorem clone_sites (l : List Site) (v : Value) (w : World) (h : SitesAt w v l) (hl : l.length ≤ 500) : Calls Tryz.prog 47 #[v] w fun e w' => ∃ v', e = .returned v' ∧ SitesAt w' v' l ∧ Below w.heap.size w w' := by
  obtain ⟨oa, c, rfl, hm, hc⟩ := h
  cases oa with
  | none =>
    have h0 : l.length = 0 := by
      rcases Nat.eq_zero_or_pos l.length with h | h
      · exact h
      · obtain ⟨b, off, e, _⟩ := hc h; cases e
    refine (AnyE.slices_Clone_nil Tryz.cloneSite l.length c w).mono fun e w' he => ?_
    obtain ⟨rfl, rfl⟩ := he
    exact ⟨_, rfl, ⟨none, 0, by rw [h0], hm, fun h => by omega⟩, Below.refl _ _⟩
  | some a =>
    rcases Nat.eq_zero_or_pos l.length with h0 | h0
    · have hl0 : l = [] := List.length_eq_zero_iff.1 h0
      subst hl0
      refine (clone_zero Tryz.cloneSite Tryz.t60 (.agg #[.string ByteArray.empty, .int .i64 0]) 2 24 (by kernel_rfl) (by kernel_rfl) (by kernel_rfl) (by kernel_rfl) rfl (by decide) Tryz.sizeOf60 a c w).mono fun e w' he => ?_
      obtain ⟨v', rfl, hown, hb⟩ := he
      exact ⟨v', rfl, SitesAt.of_owns hown, hb⟩
    · obtain ⟨b, off, e, hx⟩ := hc h0
      cases e
      refine (AnyE.slices_Clone Tryz.cloneSite Tryz.t60 (.agg #[.string ByteArray.empty, .int .i64 0]) 2 24 (by kernel_rfl) (by kernel_rfl) (by kernel_rfl) (by kernel_rfl) rfl (by decide) Tryz.sizeOf60 b off l.length c (l.flatMap encSite) w (flat_len siteLen l) hm (by omega) ?_ oneCell_site).mono fun e w' he => ?_
      · intro j u hu
        obtain ⟨a, i, ha, hi, rfl, hu'⟩ := flat_split siteLen l hu
        rw [← Nat.add_assoc]
        exact hx a ha i u hu'
      · obtain ⟨v', rfl, hown, _, hb⟩ := he
        exact ⟨v', rfl, SitesAt.of_owns hown, hb⟩
end Go.Proofs.YtfgefjpgmfjmjaaGreatDoor
