/- The second words of sectors whose numbers differ in one bit are not the same: part 13 of 16 of the reckoning. No program. -/
import Derived.Test.YtbmnbdkbgpajeaaGreatDoorN5
namespace Go.Bn
set_option maxHeartbeats 4000000 in
set_option maxRecDepth 10000 in
theorem big_12 : ∀ j, j < 258 → big 12 j = true := by
  iterate 40 (refine stepL ?_ (by decide +kernel))
  iterate 40 (refine stepL ?_ (by decide +kernel))
  iterate 40 (refine stepL ?_ (by decide +kernel))
  iterate 40 (refine stepL ?_ (by decide +kernel))
  iterate 40 (refine stepL ?_ (by decide +kernel))
  iterate 40 (refine stepL ?_ (by decide +kernel))
  iterate 18 (refine stepL ?_ (by decide +kernel))
  exact none0
set_option maxRecDepth 10000 in
theorem big_19 : ∀ j, j < 237 → big 19 j = true := by
  iterate 40 (refine stepL ?_ (by decide +kernel))
  iterate 40 (refine stepL ?_ (by decide +kernel))
  iterate 40 (refine stepL ?_ (by decide +kernel))
  iterate 40 (refine stepL ?_ (by decide +kernel))
  iterate 40 (refine stepL ?_ (by decide +kernel))
  iterate 37 (refine stepL ?_ (by decide +kernel))
  exact none0
set_option maxRecDepth 10000 in
theorem big_44 : ∀ j, j < 162 → big 44 j = true := by
  iterate 40 (refine stepL ?_ (by decide +kernel))
  iterate 40 (refine stepL ?_ (by decide +kernel))
  iterate 40 (refine stepL ?_ (by decide +kernel))
  iterate 40 (refine stepL ?_ (by decide +kernel))
  iterate 2 (refine stepL ?_ (by decide +kernel))
  exact none0
set_option maxRecDepth 10000 in
theorem big_51 : ∀ j, j < 141 → big 51 j = true := by
  iterate 40 (refine stepL ?_ (by decide +kernel))
  iterate 40 (refine stepL ?_ (by decide +kernel))
  iterate 40 (refine stepL ?_ (by decide +kernel))
  iterate 21 (refine stepL ?_ (by decide +kernel))
  exact none0
set_option maxRecDepth 10000 in
theorem big_76 : ∀ j, j < 66 → big 76 j = true := by
  iterate 40 (refine stepL ?_ (by decide +kernel))
  iterate 26 (refine stepL ?_ (by decide +kernel))
  exact none0
set_option maxRecDepth 10000 in
theorem big_83 : ∀ j, j < 45 → big 83 j = true := by
  iterate 40 (refine stepL ?_ (by decide +kernel))
  iterate 5 (refine stepL ?_ (by decide +kernel))
  exact none0
set_option maxRecDepth 10000 in
theorem few_4 : ∀ j, j < 7 → few 4 j = true := by
  iterate 7 (refine stepL ?_ (by decide +kernel))
  exact none0
set_option maxRecDepth 10000 in
theorem few_20 : ∀ j, j < 7 → few 20 j = true := by
  iterate 7 (refine stepL ?_ (by decide +kernel))
  exact none0
set_option maxRecDepth 10000 in
theorem few_36 : ∀ j, j < 7 → few 36 j = true := by
  iterate 7 (refine stepL ?_ (by decide +kernel))
  exact none0
end Go.Bn
