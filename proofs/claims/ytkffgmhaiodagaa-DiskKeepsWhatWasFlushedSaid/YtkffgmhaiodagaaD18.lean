/- The walk over DiskRefusesSizes. -/
import Derived.Test.YtkffgmhaiodagaaD17
namespace Go.Disk
def y0 : DS := fresh 3
theorem im3 : aimage y0.s = [zeros, zeros, zeros] := by decide +kernel
theorem pe3 : apend y0.s = [] := by decide +kernel
theorem wo3 : aworn y0.s = [] := by decide +kernel
theorem inR3 {i : Int} (h : i < 0 ∨ 2 < i) : inR y0 i = false := by
  have : y0.s.length = 3 := rfl
  unfold inR
  rw [this]
  rcases h with h | h
  · simp; omega
  · simp; omega
theorem read3 {i : Int} (h : inR y0 i = false) : aread y0 i = ([], 1) := by
  have : acheck y0 i = 1 := by unfold acheck; rw [h]; rfl
  unfold aread; rw [this]; rfl
theorem writei3 {i : Int} (h : inR y0 i = false) (b : List UInt8) : awrite y0 i b = (1, y0) := by
  have : acheck y0 i = 1 := by unfold acheck; rw [h]; rfl
  unfold awrite; rw [this]; rfl
theorem rot3 {i : Int} (h : inR y0 i = false) : arot y0 i 0 = (1, y0) := by unfold arot; rw [h]; rfl
theorem wear3 {i : Int} (h : inR y0 i = false) : awear y0 i = (1, y0) := by unfold awear; rw [h]; rfl
theorem write3 (b : List UInt8) (h : b.length ≠ 64) : awrite y0 0 b = (1, y0) := by
  have : acheck y0 0 = 0 := by decide +kernel
  unfold awrite; rw [this, if_neg (by decide), if_pos h]
end Go.Disk
namespace Go.Proofs.Ytkffgmhaiodagaa
open Go.RowKit Go.Own Go.Disk Go.BigFrame
attribute [local go_sem] setCell_twice str_size op_str_eql str_append
theorem At.up {w0 w1 w : World} {f : Ft} {d : DS} (h : At w1 w f d) (hb : Below w0.heap.size w0 w1) : At w0 w f d :=
  ⟨h.pd, fun x hx => Nat.le_trans hb.size (h.own x hx), hb.trans (h.below.mono hb.size)⟩
structure Sm (w0 w : World) (f : Ft) (d : DS) (ia : Option Addr) (ic : Nat) : Prop where
  pd : At w0 w f d
  im : Sl w 1 (.slice ia 3 ic) 3 ([zeros, zeros, zeros].map str)
  io : ∀ b, (Value.slice ia 3 ic).ownBlock = some b → b ∉ f.all
theorem Sm.chg {w0 w w' : World} {f : Ft} {d d' : DS} {ia : Option Addr} {ic : Nat} (h : Sm w0 w f d ia ic) (hp : At w0 w' f d') (hc : Chg f.all w w') : Sm w0 w' f d' ia ic := ⟨hp, h.im.chg hc h.io, h.io⟩
theorem Sm.far {w0 w w' : World} {f : Ft} {d : DS} {ia : Option Addr} {ic : Nat} (h : Sm w0 w f d ia ic) (hb : Below w.heap.size w w') : Sm w0 w' f d ia ic := ⟨h.pd.far hb, h.im.below hb, h.io⟩
theorem new3_any (w : World) : Calls Try.prog 14 #[.int .i64 3] w fun e w' => ∃ f : Ft, e = .returned (.tuple #[.pointer (some ⟨f.p, 0, none⟩), .int .i64 0]) ∧ At w w' f y0 :=
  (new_any 3 (by decide) (by decide) w).mono fun _ _ ⟨f, h1, h2, h3, h4⟩ => ⟨f, h1, h2, h3, h4⟩
theorem full120 (w : World) : Calls Try.prog 18 #[.int .u8 120] w fun e w' => e = .returned (str (List.replicate 64 120)) ∧ Below w.heap.size w w' := full_any 120 w
set_option maxHeartbeats 8000000 in
set_option maxRecDepth 100000 in
theorem refuses_any (n i : Int) (b : List UInt8) (w : World) : Calls Try.prog 4 #[.int .i64 n, .int .i64 i, str b] w fun e w' => e = .returned (.bool true) ∧ Below w.heap.size w w' := by
  go_enter Try.func4, Try.ntmps4
  go_wp2_with fail
  refine (sanity_any w).mono ?_
  rintro e w1 ⟨rfl, hbs⟩
  by_cases hn : n < 1
  · skip
    go_wp2_with fail
    refine (new_bad n (.inl hn) _).mono ?_
    rintro e wz ⟨rfl, rfl⟩
    go_wp2_with fail
    refine (new3_any _).mono ?_
    rintro e w101 ⟨f, rfl, h0⟩
    have hfl := h0.pd.lt
    replace h0 : At w _ f y0 := h0.up hbs
    go_wp2_with fail
    refine (image_at h0 im3).mono ?_
    rintro e w102 ⟨ia, ic, rfl, hI, hIo, h3, hb⟩
    replace hIo : ∀ b, (Value.slice ia 3 ic).ownBlock = some b → b ∉ f.all := fun b h h' => absurd (hIo b h) (Nat.not_le.2 (hfl b h'))
    have S : Sm w _ f y0 ia ic := ⟨h3, hI, hIo⟩
    clear h0 h3 hI hIo hfl hbs hb
    by_cases hi : i < 0
    · skip
      have hi3 : inR y0 i = false := inR3 (.inl hi)
      go_wp2_with fail
      refine (read_at S.pd (read3 hi3)).mono ?_
      rintro e w103 ⟨rfl, _, hb⟩
      replace S := S.far hb
      clear hb
      go_wp2_with fail
      refine (full120 _).mono ?_
      rintro e w104 ⟨rfl, hb⟩
      replace S := S.far hb
      clear hb
      go_wp2_with fail
      refine (write_at S.pd (writei3 hi3 _)).mono ?_
      rintro e w105 ⟨rfl, h, hc⟩
      replace S := S.chg h hc
      clear h hc
      go_wp2_with fail
      refine (rot_at S.pd (rot3 hi3)).mono ?_
      rintro e w106 ⟨rfl, h, hc⟩
      replace S := S.chg h hc
      clear h hc
      go_wp2_with fail
      refine (wear_at S.pd (wear3 hi3)).mono ?_
      rintro e w107 ⟨rfl, h, hc⟩
      replace S := S.chg h hc
      clear h hc hi3
      by_cases hs : b.length = 64
      · have hs' : ((b.length : Int) != 64) = false := by simp [hs]
        go_wp2_with fail
        refine (image_at S.pd im3).mono ?_
        rintro e w108 ⟨ja, jc, rfl, hJ, _, _, hb⟩
        replace S := S.far hb
        clear hb
        go_wp2_with fail
        refine (sameTexts_any [zeros, zeros, zeros] [zeros, zeros, zeros] ia ja ic jc _ S.im hJ (.inl (by decide))).mono ?_
        rintro e w109 ⟨rfl, hb⟩
        replace S := S.far hb
        clear hb hJ
        go_wp2_with fail
        refine (pending_at S.pd pe3).mono ?_
        rintro e w110 ⟨pa, pc, rfl, _, _, _, hb⟩
        replace S := S.far hb
        clear hb
        go_wp2_with fail
        refine (worn_at S.pd wo3).mono ?_
        rintro e w111 ⟨wa, wc, rfl, _, _, _, hb⟩
        replace S := S.far hb
        clear hb
        go_wp2
        go_ret
        exact ⟨rfl, S.pd.below⟩
      · have hs' : ((b.length : Int) != 64) = true := by simp; omega
        go_wp2_with fail
        refine (write_at S.pd (write3 b hs)).mono ?_
        rintro e w112 ⟨rfl, h, hc⟩
        replace S := S.chg h hc
        clear h hc
        go_wp2_with fail
        refine (image_at S.pd im3).mono ?_
        rintro e w113 ⟨ja, jc, rfl, hJ, _, _, hb⟩
        replace S := S.far hb
        clear hb
        go_wp2_with fail
        refine (sameTexts_any [zeros, zeros, zeros] [zeros, zeros, zeros] ia ja ic jc _ S.im hJ (.inl (by decide))).mono ?_
        rintro e w114 ⟨rfl, hb⟩
        replace S := S.far hb
        clear hb hJ
        go_wp2_with fail
        refine (pending_at S.pd pe3).mono ?_
        rintro e w115 ⟨pa, pc, rfl, _, _, _, hb⟩
        replace S := S.far hb
        clear hb
        go_wp2_with fail
        refine (worn_at S.pd wo3).mono ?_
        rintro e w116 ⟨wa, wc, rfl, _, _, _, hb⟩
        replace S := S.far hb
        clear hb
        go_wp2
        go_ret
        exact ⟨rfl, S.pd.below⟩
    · by_cases hi2 : 2 < i
      · have hi0 : 0 ≤ i := by omega
        clear hi
        have hi3 : inR y0 i = false := inR3 (.inr hi2)
        go_wp2_with fail
        refine (read_at S.pd (read3 hi3)).mono ?_
        rintro e w117 ⟨rfl, _, hb⟩
        replace S := S.far hb
        clear hb
        go_wp2_with fail
        refine (full120 _).mono ?_
        rintro e w118 ⟨rfl, hb⟩
        replace S := S.far hb
        clear hb
        go_wp2_with fail
        refine (write_at S.pd (writei3 hi3 _)).mono ?_
        rintro e w119 ⟨rfl, h, hc⟩
        replace S := S.chg h hc
        clear h hc
        go_wp2_with fail
        refine (rot_at S.pd (rot3 hi3)).mono ?_
        rintro e w120 ⟨rfl, h, hc⟩
        replace S := S.chg h hc
        clear h hc
        go_wp2_with fail
        refine (wear_at S.pd (wear3 hi3)).mono ?_
        rintro e w121 ⟨rfl, h, hc⟩
        replace S := S.chg h hc
        clear h hc hi3
        by_cases hs : b.length = 64
        · have hs' : ((b.length : Int) != 64) = false := by simp [hs]
          go_wp2_with fail
          refine (image_at S.pd im3).mono ?_
          rintro e w122 ⟨ja, jc, rfl, hJ, _, _, hb⟩
          replace S := S.far hb
          clear hb
          go_wp2_with fail
          refine (sameTexts_any [zeros, zeros, zeros] [zeros, zeros, zeros] ia ja ic jc _ S.im hJ (.inl (by decide))).mono ?_
          rintro e w123 ⟨rfl, hb⟩
          replace S := S.far hb
          clear hb hJ
          go_wp2_with fail
          refine (pending_at S.pd pe3).mono ?_
          rintro e w124 ⟨pa, pc, rfl, _, _, _, hb⟩
          replace S := S.far hb
          clear hb
          go_wp2_with fail
          refine (worn_at S.pd wo3).mono ?_
          rintro e w125 ⟨wa, wc, rfl, _, _, _, hb⟩
          replace S := S.far hb
          clear hb
          go_wp2
          go_ret
          exact ⟨rfl, S.pd.below⟩
        · have hs' : ((b.length : Int) != 64) = true := by simp; omega
          go_wp2_with fail
          refine (write_at S.pd (write3 b hs)).mono ?_
          rintro e w126 ⟨rfl, h, hc⟩
          replace S := S.chg h hc
          clear h hc
          go_wp2_with fail
          refine (image_at S.pd im3).mono ?_
          rintro e w127 ⟨ja, jc, rfl, hJ, _, _, hb⟩
          replace S := S.far hb
          clear hb
          go_wp2_with fail
          refine (sameTexts_any [zeros, zeros, zeros] [zeros, zeros, zeros] ia ja ic jc _ S.im hJ (.inl (by decide))).mono ?_
          rintro e w128 ⟨rfl, hb⟩
          replace S := S.far hb
          clear hb hJ
          go_wp2_with fail
          refine (pending_at S.pd pe3).mono ?_
          rintro e w129 ⟨pa, pc, rfl, _, _, _, hb⟩
          replace S := S.far hb
          clear hb
          go_wp2_with fail
          refine (worn_at S.pd wo3).mono ?_
          rintro e w130 ⟨wa, wc, rfl, _, _, _, hb⟩
          replace S := S.far hb
          clear hb
          go_wp2
          go_ret
          exact ⟨rfl, S.pd.below⟩
      · have hi0 : 0 ≤ i := by omega
        have hi3 : i ≤ 2 := by omega
        clear hi hi2
        by_cases hs : b.length = 64
        · have hs' : ((b.length : Int) != 64) = false := by simp [hs]
          go_wp2_with fail
          refine (image_at S.pd im3).mono ?_
          rintro e w131 ⟨ja, jc, rfl, hJ, _, _, hb⟩
          replace S := S.far hb
          clear hb
          go_wp2_with fail
          refine (sameTexts_any [zeros, zeros, zeros] [zeros, zeros, zeros] ia ja ic jc _ S.im hJ (.inl (by decide))).mono ?_
          rintro e w132 ⟨rfl, hb⟩
          replace S := S.far hb
          clear hb hJ
          go_wp2_with fail
          refine (pending_at S.pd pe3).mono ?_
          rintro e w133 ⟨pa, pc, rfl, _, _, _, hb⟩
          replace S := S.far hb
          clear hb
          go_wp2_with fail
          refine (worn_at S.pd wo3).mono ?_
          rintro e w134 ⟨wa, wc, rfl, _, _, _, hb⟩
          replace S := S.far hb
          clear hb
          go_wp2
          go_ret
          exact ⟨rfl, S.pd.below⟩
        · have hs' : ((b.length : Int) != 64) = true := by simp; omega
          go_wp2_with fail
          refine (write_at S.pd (write3 b hs)).mono ?_
          rintro e w135 ⟨rfl, h, hc⟩
          replace S := S.chg h hc
          clear h hc
          go_wp2_with fail
          refine (image_at S.pd im3).mono ?_
          rintro e w136 ⟨ja, jc, rfl, hJ, _, _, hb⟩
          replace S := S.far hb
          clear hb
          go_wp2_with fail
          refine (sameTexts_any [zeros, zeros, zeros] [zeros, zeros, zeros] ia ja ic jc _ S.im hJ (.inl (by decide))).mono ?_
          rintro e w137 ⟨rfl, hb⟩
          replace S := S.far hb
          clear hb hJ
          go_wp2_with fail
          refine (pending_at S.pd pe3).mono ?_
          rintro e w138 ⟨pa, pc, rfl, _, _, _, hb⟩
          replace S := S.far hb
          clear hb
          go_wp2_with fail
          refine (worn_at S.pd wo3).mono ?_
          rintro e w139 ⟨wa, wc, rfl, _, _, _, hb⟩
          replace S := S.far hb
          clear hb
          go_wp2
          go_ret
          exact ⟨rfl, S.pd.below⟩
  · have hn1 : 1 ≤ n := by omega
    clear hn
    by_cases hn : 4096 < n
    · skip
      go_wp2_with fail
      refine (new_bad n (.inr hn) _).mono ?_
      rintro e wz ⟨rfl, rfl⟩
      go_wp2_with fail
      refine (new3_any _).mono ?_
      rintro e w140 ⟨f, rfl, h0⟩
      have hfl := h0.pd.lt
      replace h0 : At w _ f y0 := h0.up hbs
      go_wp2_with fail
      refine (image_at h0 im3).mono ?_
      rintro e w141 ⟨ia, ic, rfl, hI, hIo, h3, hb⟩
      replace hIo : ∀ b, (Value.slice ia 3 ic).ownBlock = some b → b ∉ f.all := fun b h h' => absurd (hIo b h) (Nat.not_le.2 (hfl b h'))
      have S : Sm w _ f y0 ia ic := ⟨h3, hI, hIo⟩
      clear h0 h3 hI hIo hfl hbs hb
      by_cases hi : i < 0
      · skip
        have hi3 : inR y0 i = false := inR3 (.inl hi)
        go_wp2_with fail
        refine (read_at S.pd (read3 hi3)).mono ?_
        rintro e w142 ⟨rfl, _, hb⟩
        replace S := S.far hb
        clear hb
        go_wp2_with fail
        refine (full120 _).mono ?_
        rintro e w143 ⟨rfl, hb⟩
        replace S := S.far hb
        clear hb
        go_wp2_with fail
        refine (write_at S.pd (writei3 hi3 _)).mono ?_
        rintro e w144 ⟨rfl, h, hc⟩
        replace S := S.chg h hc
        clear h hc
        go_wp2_with fail
        refine (rot_at S.pd (rot3 hi3)).mono ?_
        rintro e w145 ⟨rfl, h, hc⟩
        replace S := S.chg h hc
        clear h hc
        go_wp2_with fail
        refine (wear_at S.pd (wear3 hi3)).mono ?_
        rintro e w146 ⟨rfl, h, hc⟩
        replace S := S.chg h hc
        clear h hc hi3
        by_cases hs : b.length = 64
        · have hs' : ((b.length : Int) != 64) = false := by simp [hs]
          go_wp2_with fail
          refine (image_at S.pd im3).mono ?_
          rintro e w147 ⟨ja, jc, rfl, hJ, _, _, hb⟩
          replace S := S.far hb
          clear hb
          go_wp2_with fail
          refine (sameTexts_any [zeros, zeros, zeros] [zeros, zeros, zeros] ia ja ic jc _ S.im hJ (.inl (by decide))).mono ?_
          rintro e w148 ⟨rfl, hb⟩
          replace S := S.far hb
          clear hb hJ
          go_wp2_with fail
          refine (pending_at S.pd pe3).mono ?_
          rintro e w149 ⟨pa, pc, rfl, _, _, _, hb⟩
          replace S := S.far hb
          clear hb
          go_wp2_with fail
          refine (worn_at S.pd wo3).mono ?_
          rintro e w150 ⟨wa, wc, rfl, _, _, _, hb⟩
          replace S := S.far hb
          clear hb
          go_wp2
          go_ret
          exact ⟨rfl, S.pd.below⟩
        · have hs' : ((b.length : Int) != 64) = true := by simp; omega
          go_wp2_with fail
          refine (write_at S.pd (write3 b hs)).mono ?_
          rintro e w151 ⟨rfl, h, hc⟩
          replace S := S.chg h hc
          clear h hc
          go_wp2_with fail
          refine (image_at S.pd im3).mono ?_
          rintro e w152 ⟨ja, jc, rfl, hJ, _, _, hb⟩
          replace S := S.far hb
          clear hb
          go_wp2_with fail
          refine (sameTexts_any [zeros, zeros, zeros] [zeros, zeros, zeros] ia ja ic jc _ S.im hJ (.inl (by decide))).mono ?_
          rintro e w153 ⟨rfl, hb⟩
          replace S := S.far hb
          clear hb hJ
          go_wp2_with fail
          refine (pending_at S.pd pe3).mono ?_
          rintro e w154 ⟨pa, pc, rfl, _, _, _, hb⟩
          replace S := S.far hb
          clear hb
          go_wp2_with fail
          refine (worn_at S.pd wo3).mono ?_
          rintro e w155 ⟨wa, wc, rfl, _, _, _, hb⟩
          replace S := S.far hb
          clear hb
          go_wp2
          go_ret
          exact ⟨rfl, S.pd.below⟩
      · by_cases hi2 : 2 < i
        · have hi0 : 0 ≤ i := by omega
          clear hi
          have hi3 : inR y0 i = false := inR3 (.inr hi2)
          go_wp2_with fail
          refine (read_at S.pd (read3 hi3)).mono ?_
          rintro e w156 ⟨rfl, _, hb⟩
          replace S := S.far hb
          clear hb
          go_wp2_with fail
          refine (full120 _).mono ?_
          rintro e w157 ⟨rfl, hb⟩
          replace S := S.far hb
          clear hb
          go_wp2_with fail
          refine (write_at S.pd (writei3 hi3 _)).mono ?_
          rintro e w158 ⟨rfl, h, hc⟩
          replace S := S.chg h hc
          clear h hc
          go_wp2_with fail
          refine (rot_at S.pd (rot3 hi3)).mono ?_
          rintro e w159 ⟨rfl, h, hc⟩
          replace S := S.chg h hc
          clear h hc
          go_wp2_with fail
          refine (wear_at S.pd (wear3 hi3)).mono ?_
          rintro e w160 ⟨rfl, h, hc⟩
          replace S := S.chg h hc
          clear h hc hi3
          by_cases hs : b.length = 64
          · have hs' : ((b.length : Int) != 64) = false := by simp [hs]
            go_wp2_with fail
            refine (image_at S.pd im3).mono ?_
            rintro e w161 ⟨ja, jc, rfl, hJ, _, _, hb⟩
            replace S := S.far hb
            clear hb
            go_wp2_with fail
            refine (sameTexts_any [zeros, zeros, zeros] [zeros, zeros, zeros] ia ja ic jc _ S.im hJ (.inl (by decide))).mono ?_
            rintro e w162 ⟨rfl, hb⟩
            replace S := S.far hb
            clear hb hJ
            go_wp2_with fail
            refine (pending_at S.pd pe3).mono ?_
            rintro e w163 ⟨pa, pc, rfl, _, _, _, hb⟩
            replace S := S.far hb
            clear hb
            go_wp2_with fail
            refine (worn_at S.pd wo3).mono ?_
            rintro e w164 ⟨wa, wc, rfl, _, _, _, hb⟩
            replace S := S.far hb
            clear hb
            go_wp2
            go_ret
            exact ⟨rfl, S.pd.below⟩
          · have hs' : ((b.length : Int) != 64) = true := by simp; omega
            go_wp2_with fail
            refine (write_at S.pd (write3 b hs)).mono ?_
            rintro e w165 ⟨rfl, h, hc⟩
            replace S := S.chg h hc
            clear h hc
            go_wp2_with fail
            refine (image_at S.pd im3).mono ?_
            rintro e w166 ⟨ja, jc, rfl, hJ, _, _, hb⟩
            replace S := S.far hb
            clear hb
            go_wp2_with fail
            refine (sameTexts_any [zeros, zeros, zeros] [zeros, zeros, zeros] ia ja ic jc _ S.im hJ (.inl (by decide))).mono ?_
            rintro e w167 ⟨rfl, hb⟩
            replace S := S.far hb
            clear hb hJ
            go_wp2_with fail
            refine (pending_at S.pd pe3).mono ?_
            rintro e w168 ⟨pa, pc, rfl, _, _, _, hb⟩
            replace S := S.far hb
            clear hb
            go_wp2_with fail
            refine (worn_at S.pd wo3).mono ?_
            rintro e w169 ⟨wa, wc, rfl, _, _, _, hb⟩
            replace S := S.far hb
            clear hb
            go_wp2
            go_ret
            exact ⟨rfl, S.pd.below⟩
        · have hi0 : 0 ≤ i := by omega
          have hi3 : i ≤ 2 := by omega
          clear hi hi2
          by_cases hs : b.length = 64
          · have hs' : ((b.length : Int) != 64) = false := by simp [hs]
            go_wp2_with fail
            refine (image_at S.pd im3).mono ?_
            rintro e w170 ⟨ja, jc, rfl, hJ, _, _, hb⟩
            replace S := S.far hb
            clear hb
            go_wp2_with fail
            refine (sameTexts_any [zeros, zeros, zeros] [zeros, zeros, zeros] ia ja ic jc _ S.im hJ (.inl (by decide))).mono ?_
            rintro e w171 ⟨rfl, hb⟩
            replace S := S.far hb
            clear hb hJ
            go_wp2_with fail
            refine (pending_at S.pd pe3).mono ?_
            rintro e w172 ⟨pa, pc, rfl, _, _, _, hb⟩
            replace S := S.far hb
            clear hb
            go_wp2_with fail
            refine (worn_at S.pd wo3).mono ?_
            rintro e w173 ⟨wa, wc, rfl, _, _, _, hb⟩
            replace S := S.far hb
            clear hb
            go_wp2
            go_ret
            exact ⟨rfl, S.pd.below⟩
          · have hs' : ((b.length : Int) != 64) = true := by simp; omega
            go_wp2_with fail
            refine (write_at S.pd (write3 b hs)).mono ?_
            rintro e w174 ⟨rfl, h, hc⟩
            replace S := S.chg h hc
            clear h hc
            go_wp2_with fail
            refine (image_at S.pd im3).mono ?_
            rintro e w175 ⟨ja, jc, rfl, hJ, _, _, hb⟩
            replace S := S.far hb
            clear hb
            go_wp2_with fail
            refine (sameTexts_any [zeros, zeros, zeros] [zeros, zeros, zeros] ia ja ic jc _ S.im hJ (.inl (by decide))).mono ?_
            rintro e w176 ⟨rfl, hb⟩
            replace S := S.far hb
            clear hb hJ
            go_wp2_with fail
            refine (pending_at S.pd pe3).mono ?_
            rintro e w177 ⟨pa, pc, rfl, _, _, _, hb⟩
            replace S := S.far hb
            clear hb
            go_wp2_with fail
            refine (worn_at S.pd wo3).mono ?_
            rintro e w178 ⟨wa, wc, rfl, _, _, _, hb⟩
            replace S := S.far hb
            clear hb
            go_wp2
            go_ret
            exact ⟨rfl, S.pd.below⟩
    · have hn2 : n ≤ 4096 := by omega
      clear hn
      go_wp2_with fail
      refine (new3_any _).mono ?_
      rintro e w179 ⟨f, rfl, h0⟩
      have hfl := h0.pd.lt
      replace h0 : At w _ f y0 := h0.up hbs
      go_wp2_with fail
      refine (image_at h0 im3).mono ?_
      rintro e w180 ⟨ia, ic, rfl, hI, hIo, h3, hb⟩
      replace hIo : ∀ b, (Value.slice ia 3 ic).ownBlock = some b → b ∉ f.all := fun b h h' => absurd (hIo b h) (Nat.not_le.2 (hfl b h'))
      have S : Sm w _ f y0 ia ic := ⟨h3, hI, hIo⟩
      clear h0 h3 hI hIo hfl hbs hb
      by_cases hi : i < 0
      · skip
        have hi3 : inR y0 i = false := inR3 (.inl hi)
        go_wp2_with fail
        refine (read_at S.pd (read3 hi3)).mono ?_
        rintro e w181 ⟨rfl, _, hb⟩
        replace S := S.far hb
        clear hb
        go_wp2_with fail
        refine (full120 _).mono ?_
        rintro e w182 ⟨rfl, hb⟩
        replace S := S.far hb
        clear hb
        go_wp2_with fail
        refine (write_at S.pd (writei3 hi3 _)).mono ?_
        rintro e w183 ⟨rfl, h, hc⟩
        replace S := S.chg h hc
        clear h hc
        go_wp2_with fail
        refine (rot_at S.pd (rot3 hi3)).mono ?_
        rintro e w184 ⟨rfl, h, hc⟩
        replace S := S.chg h hc
        clear h hc
        go_wp2_with fail
        refine (wear_at S.pd (wear3 hi3)).mono ?_
        rintro e w185 ⟨rfl, h, hc⟩
        replace S := S.chg h hc
        clear h hc hi3
        by_cases hs : b.length = 64
        · have hs' : ((b.length : Int) != 64) = false := by simp [hs]
          go_wp2_with fail
          refine (image_at S.pd im3).mono ?_
          rintro e w186 ⟨ja, jc, rfl, hJ, _, _, hb⟩
          replace S := S.far hb
          clear hb
          go_wp2_with fail
          refine (sameTexts_any [zeros, zeros, zeros] [zeros, zeros, zeros] ia ja ic jc _ S.im hJ (.inl (by decide))).mono ?_
          rintro e w187 ⟨rfl, hb⟩
          replace S := S.far hb
          clear hb hJ
          go_wp2_with fail
          refine (pending_at S.pd pe3).mono ?_
          rintro e w188 ⟨pa, pc, rfl, _, _, _, hb⟩
          replace S := S.far hb
          clear hb
          go_wp2_with fail
          refine (worn_at S.pd wo3).mono ?_
          rintro e w189 ⟨wa, wc, rfl, _, _, _, hb⟩
          replace S := S.far hb
          clear hb
          go_wp2
          go_ret
          exact ⟨rfl, S.pd.below⟩
        · have hs' : ((b.length : Int) != 64) = true := by simp; omega
          go_wp2_with fail
          refine (write_at S.pd (write3 b hs)).mono ?_
          rintro e w190 ⟨rfl, h, hc⟩
          replace S := S.chg h hc
          clear h hc
          go_wp2_with fail
          refine (image_at S.pd im3).mono ?_
          rintro e w191 ⟨ja, jc, rfl, hJ, _, _, hb⟩
          replace S := S.far hb
          clear hb
          go_wp2_with fail
          refine (sameTexts_any [zeros, zeros, zeros] [zeros, zeros, zeros] ia ja ic jc _ S.im hJ (.inl (by decide))).mono ?_
          rintro e w192 ⟨rfl, hb⟩
          replace S := S.far hb
          clear hb hJ
          go_wp2_with fail
          refine (pending_at S.pd pe3).mono ?_
          rintro e w193 ⟨pa, pc, rfl, _, _, _, hb⟩
          replace S := S.far hb
          clear hb
          go_wp2_with fail
          refine (worn_at S.pd wo3).mono ?_
          rintro e w194 ⟨wa, wc, rfl, _, _, _, hb⟩
          replace S := S.far hb
          clear hb
          go_wp2
          go_ret
          exact ⟨rfl, S.pd.below⟩
      · by_cases hi2 : 2 < i
        · have hi0 : 0 ≤ i := by omega
          clear hi
          have hi3 : inR y0 i = false := inR3 (.inr hi2)
          go_wp2_with fail
          refine (read_at S.pd (read3 hi3)).mono ?_
          rintro e w195 ⟨rfl, _, hb⟩
          replace S := S.far hb
          clear hb
          go_wp2_with fail
          refine (full120 _).mono ?_
          rintro e w196 ⟨rfl, hb⟩
          replace S := S.far hb
          clear hb
          go_wp2_with fail
          refine (write_at S.pd (writei3 hi3 _)).mono ?_
          rintro e w197 ⟨rfl, h, hc⟩
          replace S := S.chg h hc
          clear h hc
          go_wp2_with fail
          refine (rot_at S.pd (rot3 hi3)).mono ?_
          rintro e w198 ⟨rfl, h, hc⟩
          replace S := S.chg h hc
          clear h hc
          go_wp2_with fail
          refine (wear_at S.pd (wear3 hi3)).mono ?_
          rintro e w199 ⟨rfl, h, hc⟩
          replace S := S.chg h hc
          clear h hc hi3
          by_cases hs : b.length = 64
          · have hs' : ((b.length : Int) != 64) = false := by simp [hs]
            go_wp2_with fail
            refine (image_at S.pd im3).mono ?_
            rintro e w200 ⟨ja, jc, rfl, hJ, _, _, hb⟩
            replace S := S.far hb
            clear hb
            go_wp2_with fail
            refine (sameTexts_any [zeros, zeros, zeros] [zeros, zeros, zeros] ia ja ic jc _ S.im hJ (.inl (by decide))).mono ?_
            rintro e w201 ⟨rfl, hb⟩
            replace S := S.far hb
            clear hb hJ
            go_wp2_with fail
            refine (pending_at S.pd pe3).mono ?_
            rintro e w202 ⟨pa, pc, rfl, _, _, _, hb⟩
            replace S := S.far hb
            clear hb
            go_wp2_with fail
            refine (worn_at S.pd wo3).mono ?_
            rintro e w203 ⟨wa, wc, rfl, _, _, _, hb⟩
            replace S := S.far hb
            clear hb
            go_wp2
            go_ret
            exact ⟨rfl, S.pd.below⟩
          · have hs' : ((b.length : Int) != 64) = true := by simp; omega
            go_wp2_with fail
            refine (write_at S.pd (write3 b hs)).mono ?_
            rintro e w204 ⟨rfl, h, hc⟩
            replace S := S.chg h hc
            clear h hc
            go_wp2_with fail
            refine (image_at S.pd im3).mono ?_
            rintro e w205 ⟨ja, jc, rfl, hJ, _, _, hb⟩
            replace S := S.far hb
            clear hb
            go_wp2_with fail
            refine (sameTexts_any [zeros, zeros, zeros] [zeros, zeros, zeros] ia ja ic jc _ S.im hJ (.inl (by decide))).mono ?_
            rintro e w206 ⟨rfl, hb⟩
            replace S := S.far hb
            clear hb hJ
            go_wp2_with fail
            refine (pending_at S.pd pe3).mono ?_
            rintro e w207 ⟨pa, pc, rfl, _, _, _, hb⟩
            replace S := S.far hb
            clear hb
            go_wp2_with fail
            refine (worn_at S.pd wo3).mono ?_
            rintro e w208 ⟨wa, wc, rfl, _, _, _, hb⟩
            replace S := S.far hb
            clear hb
            go_wp2
            go_ret
            exact ⟨rfl, S.pd.below⟩
        · have hi0 : 0 ≤ i := by omega
          have hi3 : i ≤ 2 := by omega
          clear hi hi2
          by_cases hs : b.length = 64
          · have hs' : ((b.length : Int) != 64) = false := by simp [hs]
            go_wp2_with fail
            refine (image_at S.pd im3).mono ?_
            rintro e w209 ⟨ja, jc, rfl, hJ, _, _, hb⟩
            replace S := S.far hb
            clear hb
            go_wp2_with fail
            refine (sameTexts_any [zeros, zeros, zeros] [zeros, zeros, zeros] ia ja ic jc _ S.im hJ (.inl (by decide))).mono ?_
            rintro e w210 ⟨rfl, hb⟩
            replace S := S.far hb
            clear hb hJ
            go_wp2_with fail
            refine (pending_at S.pd pe3).mono ?_
            rintro e w211 ⟨pa, pc, rfl, _, _, _, hb⟩
            replace S := S.far hb
            clear hb
            go_wp2_with fail
            refine (worn_at S.pd wo3).mono ?_
            rintro e w212 ⟨wa, wc, rfl, _, _, _, hb⟩
            replace S := S.far hb
            clear hb
            go_wp2
            go_ret
            exact ⟨rfl, S.pd.below⟩
          · have hs' : ((b.length : Int) != 64) = true := by simp; omega
            go_wp2_with fail
            refine (write_at S.pd (write3 b hs)).mono ?_
            rintro e w213 ⟨rfl, h, hc⟩
            replace S := S.chg h hc
            clear h hc
            go_wp2_with fail
            refine (image_at S.pd im3).mono ?_
            rintro e w214 ⟨ja, jc, rfl, hJ, _, _, hb⟩
            replace S := S.far hb
            clear hb
            go_wp2_with fail
            refine (sameTexts_any [zeros, zeros, zeros] [zeros, zeros, zeros] ia ja ic jc _ S.im hJ (.inl (by decide))).mono ?_
            rintro e w215 ⟨rfl, hb⟩
            replace S := S.far hb
            clear hb hJ
            go_wp2_with fail
            refine (pending_at S.pd pe3).mono ?_
            rintro e w216 ⟨pa, pc, rfl, _, _, _, hb⟩
            replace S := S.far hb
            clear hb
            go_wp2_with fail
            refine (worn_at S.pd wo3).mono ?_
            rintro e w217 ⟨wa, wc, rfl, _, _, _, hb⟩
            replace S := S.far hb
            clear hb
            go_wp2
            go_ret
            exact ⟨rfl, S.pd.below⟩
end Go.Proofs.Ytkffgmhaiodagaa
