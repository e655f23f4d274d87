/- CredTokens, plain: see CrL. -/
import Derived.Test.YtehnpmkfgdmmmaaCrZt
