/- Nothing more: the contracts are in the texts before. No condition. -/
import Derived.Test.YtpjgcimbnhhndaaFn4
